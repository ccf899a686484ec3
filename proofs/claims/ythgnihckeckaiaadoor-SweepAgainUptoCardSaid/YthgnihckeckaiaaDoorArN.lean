/- arena.New; slices.Clone of words. -/
import Derived.Test.YthgnihckeckaiaaDoorArS
import Derived.Carry
import Derived.OwnWalk
namespace Go.Proofs.YthgnihckeckaiaaDoor.Tm
open Go.RowKit
set_option linter.unusedVariables false
set_option linter.unusedSimpArgs false

theorem wmade_row {w : World} {g : Nat} {base : Nat} {t : TypeId} {size : Nat} (hb : base ≤ g) (h : w.heap[g]? = some (.cells #[] t (0, 0))) : w.ownsRow base t size (.slice (some ⟨g, 0, none⟩) 0 0) 0 [] :=
  ⟨by simp, .inr ⟨g, 0, #[], rfl, hb, h, Nat.le_refl _, by simp, by simp⟩⟩
theorem new_any (room : Nat) (w : World) (hr : room ≤ 262144) (h3 : 3 ≤ w.heap.size) :
    Calls Tryd.prog 17 #[.int .i64 (room : Int)] w fun e w' => ∃ ba O, e = .returned (.pointer (some ⟨ba, 0, none⟩)) ∧ ArAt w' O ba room [] ∧ (∀ k, O k → w.heap.size ≤ k) ∧ Below w.heap.size w w' := by
  have hmm := @run_makeMap Tryd.prog
  have e0 : decide ((room : Int) < 0) = false := decide_eq_false (by omega)
  have e1 : decide (262144 < (room : Int)) = false := decide_eq_false (by omega)
  go_enter Tryd.func17, Tryd.ntmps17
  go_wp2
  go_ret
  refine ⟨_, fun k => k = w.heap.size ∨ k = w.heap.size + 1, rfl, ⟨w.heap.size, .slice none 0 0, .slice none 0 0, [], ?_⟩, ?_, ?_⟩
  · refine ⟨?_, ?_, row_nil _ _ _ _, row_nil _ _ _ _, rfl, fun i h => absurd h (Nat.not_lt_zero i), .inr rfl, .inl rfl, fun k hk => by simp [Value.ownBlock] at hk, fun k hk => by simp [Value.ownBlock] at hk, ?_, WfA.nil, hr, Nat.zero_le _⟩
    · have := heap_new (w.alloc (.map #[] 0)) (.cells #[.int .i64 (room : Int), .int .i64 0, .map (some w.heap.size), .slice none 0 0, .slice none 0 0] 100)
      rw [World.size_alloc] at this
      exact this
    · rw [Below.heap_alloc _ _ _ (by rw [World.size_alloc]; omega)]
      exact heap_new w _
    · intro k hk
      rw [World.size_alloc, World.size_alloc]
      omega
  · intro k hk; omega
  · exact below_alloc' (below_one _ _) _
theorem wclone_info : (Tryd.prog.info? 27).map (fun i => (i.zero, i.size, i.bytes)) = some (some (.int .u64 0), 1, 8) := by kernel_rfl
set_option maxHeartbeats 1000000 in
theorem wclone_any (l : List Int) (A : Option Addr) (c : Nat) (w : World) (hr : WReads w A l) (hl : l.length * 8 ≤ 140737488355328) :
    Calls Tryd.prog 106 #[.slice A l.length c] w fun e w' => ∃ A' c', e = .returned (.slice A' l.length c') ∧ w'.ownsRow w.heap.size 27 1 (.slice A' l.length c') l.length (encW l) ∧ Below w.heap.size w w' := by
  have qT : ∀ (w : World) (a : Option Addr) (n c n' c' : Nat), (binOp .eql 31 (.slice a n c) (.slice none n' c')).run Tryd.prog w = .ok (.bool a.isNone) w := fun w a n c n' c' => Lib.run_eql_slice_nil w _ _ a n c n' c' Tryd.underlying31
  obtain ⟨i0, hi, hz0, hz1, hz2⟩ := info_parts wclone_info
  rcases A with _ | ad
  · have hl0 : l = [] := by
      rcases l with _ | ⟨x, l⟩
      · rfl
      · obtain ⟨b, o, e, _⟩ := hr 0 (by simp)
        cases e
    subst hl0
    clear hr
    go_enter Tryd.func106, Tryd.ntmps106
    go_wp2
    go_ret
    exact ⟨none, 0, rfl, row_nil _ _ _ _, Below.refl _ _⟩
  · have hS := Lib.hid (Src.of_wreads (hr.below (below_one w (.cells #[] 27 (0, 0)))))
    clear hr
    go_enter Tryd.func106, Tryd.ntmps106
    go_wp2_with (at_builtin
                 refine wpList_app _ rfl (.tmp 5) (.tmp 6) _ rfl w.heap.size _ i0 _ 1 8 Tryd.underlying31 hi hz0 hz1 hz2 rfl (by omega) (.slice (some ⟨w.heap.size, 0, none⟩) 0 0) 0 [] rfl (wmade_row (Nat.le_refl _) (heap_new _ _)) (some ad) l.length c (encW l) rfl hS.out (by simp only [maxLen]; omega) (by omega) (by rw [World.size_alloc]; omega) ?_
                 intro v1 w1 hown1 hg1 hat1
                 rw [Nat.zero_add, List.nil_append] at hown1
                 have hB1 : Below w.heap.size w w1 := (below_one w _).grown hg1 (below_one w _).size (fun k hk => by simp [Value.ownBlock] at hk; omega)
                 obtain ⟨A1, c1, rfl⟩ := row_slice hown1)
    go_ret
    exact ⟨A1, c1, rfl, hown1, hB1⟩
end Go.Proofs.YthgnihckeckaiaaDoor.Tm
