/- SameAll of alike lists; Same, a length restated. -/
import Derived.Test.YtfeaolnklooanaaDoorRws
import Derived.WalkSmall
import Derived.Deep.DrawnRows
namespace Go.Proofs.YtfeaolnklooanaaDoor.Tm
open Go.RowKit
set_option linter.unusedVariables false
set_option linter.unusedSimpArgs false
attribute [local go_sem ↓] Go.wp_at_zero Go.wp_at_succ

set_option maxRecDepth 100000 in
set_option maxHeartbeats 2000000 in
theorem sameAll_any (n : Nat) (ls : List (List CellD)) (hn : ls.length = n) (A B : Option Addr) (c1 c2 : Nat) (w : World) (hx : Reads2 w A ls) (hy : Reads2 w B ls) (hf : ∀ l ∈ ls, l.length ≤ 1000000000000000) (hl : n ≤ 1000000000000000) :
    Calls Tryd.prog 14 #[.slice A n c1, .slice B n c2] w fun e w' => e = .returned (.bool true) ∧ Below w.heap.size w w' := by
  subst hn
  have hb : ((ls.length : Int) != (ls.length : Int)) = false := by simp
  have HX := Lib.hid hx
  have HY := Lib.hid hy
  have HF := Lib.hid hf
  clear hx hy hf
  go_enter Tryd.func14, Tryd.ntmps14
  go_wp2_with fail
  go_loopw [5] (fun i wr => ∃ j : Nat, j ≤ ls.length ∧ i = .int .i64 j ∧ Below w.heap.size w wr) (fun i wr => ls.length - (intOf i).toNat)
  case atStart => exact ⟨0, Nat.zero_le _, rfl, Below.refl _ _⟩
  case round =>
    obtain ⟨j, hj, rfl, hB⟩ := hrel
    by_cases hlt : j < ls.length
    · obtain ⟨g, o1, hA, A1, k1, p0, p1, p2⟩ := HX.out j hlt
      obtain ⟨b, o2, hBa, A2, k2, q0, q1, q2⟩ := HY.out j hlt
      subst hA hBa
      have p0' := cell_below hB p0
      have q0' := cell_below hB q0
      have R1 := Lib.hid (p2.below hB.drew)
      have R2 := Lib.hid (q2.below hB.drew)
      have hfj := HF.out _ (List.getElem_mem hlt)
      have hi1 : (j : Int) < (ls.length : Int) := by omega
      have hi0 : (0 : Int) ≤ (j : Int) := Int.natCast_nonneg _
      generalize ls[j] = l at *
      clear p0 q0 p2 q2
      go_wp2_with fail
      go_region_held3 (fun w' => w'.cell? ⟨g, o1 + j, none⟩ = some (.slice A1 l.length k1) ∧ w'.cell? ⟨b, o2 + j, none⟩ = some (.slice A2 l.length k2))
        (first
          | exact ⟨cell_below hbc p0', cell_below hbc q0'⟩
          | go_keep)
        ((go_at_call 10; refine (rsame_any A1 A2 k1 k2 l l _ R1.out R2.out hfj hfj).mono ?_; rintro e wc ⟨rfl, hbc⟩; rw [show decide (l = l) = true by simp]))
      have hB2 := below_then hB.drew hbc
      go_wp2
      go_roundw
      case rel => exact ⟨j + 1, by omega, by go_num, hB2⟩
      case measure => simp [intOf]; omega
    · go_wp2
      go_ret
      exact ⟨rfl, hB⟩
end Go.Proofs.YtfeaolnklooanaaDoor.Tm
