/- The reference's wrong. -/
import Derived.Test.YtfeaolnklooanaaDoorMid
namespace Go.Proofs.YtfeaolnklooanaaDoor.Tm
open Go.RowKit
set_option linter.unusedVariables false
set_option linter.unusedSimpArgs false

set_option maxHeartbeats 1000000 in
theorem rwrong_any (ls : List (List CellD)) (A : Option Addr) (c : Nat) (w : World) (hr : Reads2 w A ls) (hf : Fine2 ls) (hn : ls.length ≤ 1000000000000000) :
    Calls Tryd.prog 49 #[.slice A ls.length c] w fun e w' => e = .returned (.int .i64 (wrongE ls)) ∧ Below w.heap.size w w' := by
  have HR := Lib.hid hr
  have HF := Lib.hid hf
  clear hr hf
  go_enter Tryd.func49, Tryd.ntmps49
  go_wp2_with fail
  go_loopw [3] (fun i wr => ∃ j : Nat, j ≤ ls.length ∧ i = .int .i64 j ∧ Below w.heap.size w wr ∧ Hid (wrongE ls = wrongE (ls.drop j))) (fun i wr => ls.length - (intOf i).toNat)
  case atStart => exact ⟨0, Nat.zero_le _, rfl, Below.refl _ _, rfl⟩
  case round =>
    obtain ⟨j, hj, rfl, hB, hH⟩ := hrel
    by_cases hlt : j < ls.length
    · obtain ⟨b, o, hA, Aj, cj, q0, q1, q2⟩ := HR.out j hlt
      subst hA
      have q0' := cell_below hB q0
      have hfj := HF.out j hlt
      have HFJ := Lib.hid hfj
      have hi1 : (j : Int) < (ls.length : Int) := by omega
      have hi0 : (0 : Int) ≤ (j : Int) := Int.natCast_nonneg _
      clear q0 hfj
      go_wp2_with fail
      refine (rright_any ls[j] Aj cj _ (q2.below hB) HFJ.out.text HFJ.out.lim).mono ?_
      rintro e w1 ⟨rfl, hb⟩
      have hB1 := below_then hB hb
      by_cases he : (rightE ls[j]).1 = 0
      · have hF := Lib.hid (hH.out.trans (wrong_next hlt he))
        have ht : ((rightE ls[j]).1 != 0) = false := by rw [bne_eq_false_iff_eq]; exact he
        clear hH he
        go_wp2
        go_roundw
        case rel => exact ⟨j + 1, by omega, by go_num, hB1, hF⟩
        case measure => simp [intOf]; omega
      · have hF := Lib.hid (hH.out.trans (wrong_bad hlt he))
        have ht : ((rightE ls[j]).1 != 0) = true := by rw [bne_iff_ne]; exact he
        clear hH he
        go_wp2
        go_ret
        exact ⟨by rw [hF.out]; rfl, hB1⟩
    · have hF := Lib.hid (hH.out.trans (wrong_done (by omega)))
      clear hH
      go_wp2
      go_ret
      exact ⟨by rw [hF.out]; rfl, hB⟩
end Go.Proofs.YtfeaolnklooanaaDoor.Tm
