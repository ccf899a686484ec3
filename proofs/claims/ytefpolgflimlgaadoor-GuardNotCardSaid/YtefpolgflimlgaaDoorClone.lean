/- slices.Clone of cells; a made term. -/
import Derived.Test.YtefpolgflimlgaaDoorApp
import Derived.Test.YtefpolgflimlgaaDoorLent
import Derived.Test.YtefpolgflimlgaaDoorReads2
import Derived.Lib.SliceRun
import Derived.WalkSpells
namespace Go.Proofs.YtefpolgflimlgaaDoor.Tm
open Go.RowKit
set_option linter.unusedVariables false
set_option linter.unusedSimpArgs false

/-- A call answers a term in new memory, and a number. -/
structure OwnT (w w' : World) (base : Nat) (A : Option Addr) (c : Nat) (r : List CellD) : Prop where
  row : w'.ownsRow base 32 3 (.slice A r.length c) r.length (encs r)
  bel : Below w.heap.size w w'
def IsTerm (w : World) (r : List CellD) (e : Ending) (w' : World) : Prop := ∃ A c, e = .returned (.slice A r.length c) ∧ OwnT w w' w.heap.size A c r
def IsTermE (w : World) (r : List CellD × Int) (e : Ending) (w' : World) : Prop := ∃ A c, e = .returned (.tuple #[.slice A r.1.length c, .int .i64 r.2]) ∧ OwnT w w' w.heap.size A c r.1
theorem OwnT.reads {w w' : World} {base c : Nat} {A : Option Addr} {r : List CellD} (h : OwnT w w' base A c r) : Reads w' A r := Reads.of_row h.row
theorem OwnT.cap {w w' : World} {base c : Nat} {A : Option Addr} {r : List CellD} (h : OwnT w w' base A c r) : r.length ≤ c := row_cap h.row
theorem made_row {w : World} {g : Nat} {base : Nat} {t : TypeId} {size : Nat} (hb : base ≤ g) (h : w.heap[g]? = some (.cells #[] t (0, 0))) : w.ownsRow base t size (.slice (some ⟨g, 0, none⟩) 0 0) 0 [] :=
  ⟨by simp, .inr ⟨g, 0, #[], rfl, hb, h, Nat.le_refl _, by simp, by simp⟩⟩
set_option maxHeartbeats 1000000 in
theorem clone_any (l : List CellD) (A : Option Addr) (c : Nat) (w : World) (hr : Reads w A l) (hl : l.length * 32 ≤ 140737488355328) :
    Calls Tryd.prog 114 #[.slice A l.length c] w (IsTerm w l) := by
  have qT : ∀ (w : World) (a : Option Addr) (n c n' c' : Nat), (binOp .eql 22 (.slice a n c) (.slice none n' c')).run Tryd.prog w = .ok (.bool a.isNone) w := fun w a n c n' c' => Lib.run_eql_slice_nil w _ _ a n c n' c' Tryd.underlying22
  obtain ⟨i0, hi, hz0, hz1, hz2⟩ := info_parts cell_info
  rcases A with _ | ad
  · have hl0 : l = [] := by
      rcases l with _ | ⟨x, l⟩
      · rfl
      · obtain ⟨b, o, e, _⟩ := hr 0 (by simp)
        cases e
    subst hl0
    clear hr
    go_enter Tryd.func114, Tryd.ntmps114
    go_wp2
    go_ret
    exact ⟨none, 0, rfl, row_nil _ _ _ _, Below.refl _ _⟩
  · have hS := Lib.hid (Src.of_reads (hr.below (below_one w (.cells #[] 32 (0, 0)))))
    clear hr
    go_enter Tryd.func114, Tryd.ntmps114
    go_wp2_with (at_builtin
                 refine wpList_app _ rfl (.tmp 5) (.tmp 6) _ rfl w.heap.size _ i0 _ 3 32 Tryd.underlying22 hi hz0 hz1 hz2 rfl (by omega) (.slice (some ⟨w.heap.size, 0, none⟩) 0 0) 0 [] rfl (made_row (Nat.le_refl _) (heap_new _ _)) (some ad) l.length c (encs l) rfl hS.out (by simp only [maxLen]; omega) (by omega) (by rw [World.size_alloc]; omega) ?_
                 intro v1 w1 hown1 hg1 hat1
                 rw [Nat.zero_add, List.nil_append] at hown1
                 have hB1 : Below w.heap.size w w1 := (below_one w _).grown hg1 (below_one w _).size (fun k hk => by simp [Value.ownBlock] at hk; omega)
                 obtain ⟨A1, c1, rfl⟩ := row_slice hown1)
    go_ret
    exact ⟨A1, c1, rfl, hown1, hB1⟩
end Go.Proofs.YtefpolgflimlgaaDoor.Tm
