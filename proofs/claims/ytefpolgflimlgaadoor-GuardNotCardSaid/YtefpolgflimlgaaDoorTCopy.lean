/- copied and kept of tests. -/
import Derived.Test.YtefpolgflimlgaaDoorTests
import Derived.Handy
import Derived.BigQuiet
import Derived.WalkSmall
import Derived.RegionTactic
import Derived.Deep.QuietTactic
namespace Go.Proofs.YtefpolgflimlgaaDoor.Tm
open Go.RowKit
set_option linter.unusedVariables false
set_option linter.unusedSimpArgs false

theorem test_info : (Tryd.prog.info? 51).map (fun i => (i.zero, i.size, i.bytes)) = some (some (.agg #[.int .i64 0, .int .i64 0, .int .i64 0, .string ⟨#[]⟩, .int .i64 0, .int .i64 0, .string ⟨#[]⟩]), 7, 72) := by kernel_rfl
def markT7 : TestD := ⟨4321, noArg, noArg⟩
/-- A lent copy of tests. -/
structure TLentAt (w : World) (base : Nat) (A : Option Addr) (cap : Nat) (g : List TestD) : Prop where
  row : w.ownsRow base 51 7 (.slice A (g.length + 1) cap) (g.length + 1) (encT (g ++ [markT7]))
theorem TLentAt.below {w W : World} {base cap : Nat} {A : Option Addr} {g : List TestD} (h : TLentAt w base A cap g) (hB : Below w.heap.size w W) : TLentAt W base A cap g := ⟨row_below h.row hB⟩
theorem TLentAt.reads2 {w : World} {base cap : Nat} {A : Option Addr} {g : List TestD} (h : TLentAt w base A cap g) : TReads w A (g ++ [markT7]) :=
  TReads.of_row (rest := []) (by rw [List.append_nil]; exact h.row)
theorem TLentAt.reads {w : World} {base cap : Nat} {A : Option Addr} {g : List TestD} (h : TLentAt w base A cap g) : TReads w A g := by
  have := h.reads2.take g.length
  simpa using this
theorem Src.of_test {w : World} {g0 : Nat} {t : TestD} (h : TReads w (some ⟨g0, 0, none⟩) [t]) : Src w 7 (some ⟨g0, 0, none⟩) 1 (encT [t]) := Src.of_treads h
set_option maxHeartbeats 1000000 in
theorem copied_any (g : List TestD) (A : Option Addr) (cap : Nat) (w : World) (hr : TReads w A g) (hl : (g.length + 1) * 72 ≤ 140737488355328) :
    Calls Tryd.prog 39 #[.slice A g.length cap] w fun e w' => ∃ A' cap', e = .returned (.slice A' g.length cap') ∧ TLentAt w' w.heap.size A' cap' g ∧ Below w.heap.size w w' := by
  obtain ⟨i0, hi, hz0, hz1, hz2⟩ := info_parts test_info
  have hS := Lib.hid (Src.of_treads hr)
  clear hr
  go_enter Tryd.func39, Tryd.ntmps39
  go_wp2_with (at_builtin; refine wpList_app _ rfl (.tmp 4) (.tmp 5) _ rfl w.heap.size _ i0 _ 7 72 Tryd.underlying42 hi hz0 hz1 hz2 rfl (Nat.zero_lt_succ 6) (.slice none 0 0) 0 [] rfl (row_nil _ _ _ _) A g.length cap (encT g) rfl hS.out ?a1 ?a2 (Nat.le_refl _) ?a3)
  case a1 => simp only [maxLen]; omega
  case a2 => omega
  case a3 =>
    intro v1 w1 hown1 hg1 hat1
    have hB1 : Below w.heap.size w w1 := (Below.refl _ _).grown hg1 (Nat.le_refl _) (by simp [Value.ownBlock])
    have hsz1 := hB1.size
    obtain ⟨A1, c1, rfl⟩ := row_slice hown1
    have HO := Lib.hid hown1
    clear hown1 hat1
    go_wp2_with (at_builtin; refine wpList_app _ rfl (.tmp 7) (.tmp 9) _ rfl w.heap.size _ i0 _ 7 72 Tryd.underlying42 hi hz0 hz1 hz2 rfl (Nat.zero_lt_succ 6) (.slice A1 g.length c1) g.length (encT g) rfl ?b0 (some ⟨w1.heap.size, 0, none⟩) 1 1 (encT [markT7]) rfl ?b1 ?b2 ?b3 ?b4 ?b5)
    case b0 => exact HO.out.alloc _
    case b1 => exact Src.of_test (TReads.new w1 rfl)
    case b2 => simp only [maxLen]; omega
    case b3 => omega
    case b4 => rw [World.size_alloc]; omega
    case b5 =>
      intro v2 w2 hown2 hg2 hat2
      rw [← encT_append] at hown2
      have hB2 : Below w.heap.size w w2 := (below_alloc' hB1 _).grown hg2 (below_alloc' hB1 _).size (fun k hk => row_base HO.out k hk)
      obtain ⟨A2, c2, rfl⟩ := row_slice hown2
      have hcap := row_cap hown2
      have HO2 := Lib.hid hown2
      clear hown2 hat2
      go_wp2
      go_ret
      exact ⟨A2, c2, rfl, ⟨HO2.out⟩, hB2⟩
set_option maxRecDepth 100000 in
set_option maxHeartbeats 2000000 in
theorem kept9_any (g : List TestD) (A B : Option Addr) (base cap cap2 : Nat) (w : World) (h : TLentAt w base A cap g) (hr : TReads w B g) (hl : (g.length + 1) * 72 ≤ 140737488355328) :
    Calls Tryd.prog 44 #[.slice A g.length cap, .slice B g.length cap2] w fun e w' => e = .returned (.bool true) ∧ Below w.heap.size w w' := by
  have hcap := row_cap h.row
  have H := Lib.hid h
  have HR := Lib.hid hr
  clear h hr
  go_enter Tryd.func44, Tryd.ntmps44
  go_wp2_with fail
  go_loopw [5] (fun i wr => ∃ k : Nat, k ≤ g.length ∧ i = .int .i64 k ∧ Below w.heap.size w wr) (fun i wr => g.length - (intOf i).toNat)
  case atStart => exact ⟨0, Nat.zero_le _, rfl, Below.refl _ _⟩
  case round =>
    obtain ⟨k, hk, rfl, hB⟩ := hrel
    by_cases hlt : k < g.length
    · obtain ⟨g1, o1, hA, t1⟩ := (H.out.below hB).reads k hlt
      obtain ⟨g2, o2, hBa, t2⟩ := (HR.out.below hB) k hlt
      subst hA hBa
      obtain ⟨d0, d1, d2, d3, d4, d5, d6⟩ := t1
      obtain ⟨e0, e1, e2, e3, e4, e5, e6⟩ := t2
      have hi1 : (k : Int) < (g.length : Int) := by omega
      have hi0 : (0 : Int) ≤ (k : Int) := Int.natCast_nonneg _
      generalize g[k] = t at *
      go_wp2
      go_quiet (fail)
      go_wp2
      go_roundw
      case rel => exact ⟨k + 1, by omega, by go_num, below_drewN hB _⟩
      case measure => simp [intOf]; omega
    · obtain rfl : k = g.length := by omega
      obtain ⟨b, o, rfl, hc0, _, _, _, _, _, _⟩ := (H.out.below hB).reads2 g.length (by simp)
      rw [show (g ++ [markT7])[g.length] = markT7 by simp] at hc0
      have hm : wr.cell? ⟨b, o + g.length * 7, none⟩ = some (.int .i64 4321) := hc0
      have hi0 : (0 : Int) ≤ (g.length : Int) := Int.natCast_nonneg _
      have hi1 : (g.length : Int) + 1 ≤ (cap : Int) := by omega
      clear hc0
      go_wp2
      go_ret
      exact ⟨rfl, hB⟩
end Go.Proofs.YtefpolgflimlgaaDoor.Tm
