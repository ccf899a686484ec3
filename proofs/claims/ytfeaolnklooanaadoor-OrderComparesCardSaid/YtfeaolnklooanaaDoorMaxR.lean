/- The reference's Max. -/
import Derived.Test.YtfeaolnklooanaaDoorMaxW
import Derived.Test.YtfeaolnklooanaaDoorOrdR
import Derived.Test.YtfeaolnklooanaaDoorRws
namespace Go.Proofs.YtfeaolnklooanaaDoor.Tm
open Go.RowKit
set_option linter.unusedVariables false
set_option linter.unusedSimpArgs false

set_option maxRecDepth 100000 in
set_option maxHeartbeats 8000000 in
theorem rmax_any (ls : List (List CellD)) (C : Option Addr) (c : Nat) (w : World) (hr : Reads2 w C ls) (hf : Fine2 ls) (hn : ls.length * 24 ≤ 140737488351232) :
    Calls Tryd.prog 30 #[.slice C ls.length c] w (TermPost w (maxE ls)) := by
  have HR := Lib.hid hr
  obtain ⟨n, hn'⟩ : ∃ n, ls.length = n := ⟨_, rfl⟩
  have HN := Lib.hid hn'
  have HWA := Lib.hid (show Calls Tryd.prog 49 #[.slice C n c] w _ from hn' ▸ rwrong_any ls C c w hr hf (by omega))
  rw [hn'] at hn ⊢
  clear hr hf hn'
  by_cases h0 : n = 0
  · have hz : ((n : Int) == 0) = true := by simp [h0]
    have F := Lib.hid (show maxE ls = ([], 5) by have : ls = [] := List.eq_nil_of_length_eq_zero (by rw [HN.out]; exact h0)
                                                 subst this; rfl)
    have H0 := Lib.hid h0
    clear h0
    go_enter Tryd.func30, Tryd.ntmps30
    go_wp2
    go_ret2
    exact TermPost.no F.out (Below.refl _ _)
  have hz : ((n : Int) == 0) = false := by rw [beq_eq_false_iff_ne]; omega
  obtain ⟨x, l, hxl⟩ : ∃ x l, ls = x :: l := by
    cases ls with
    | nil => exact absurd HN.out.symm h0
    | cons x l => exact ⟨x, l, rfl⟩
  have HXL := Lib.hid hxl
  clear hxl
  go_enter Tryd.func30, Tryd.ntmps30
  go_wp2_with fail
  refine HWA.out.mono ?_
  rintro e w1 ⟨rfl, hB1⟩
  by_cases hw : wrongE ls ≠ 0
  · have te : (wrongE ls != 0) = true := by rw [bne_iff_ne]; exact hw
    have F := Lib.hid (show maxE ls = ([], wrongE ls) by have hxl := HXL.out; subst hxl; exact maxE_bad hw)
    clear hw
    go_wp2
    go_ret2
    exact TermPost.no F.out hB1
  have hw : wrongE ls = 0 := Decidable.not_not.1 hw
  have te : (wrongE ls != 0) = false := by rw [bne_eq_false_iff_eq]; exact hw
  have HRT := Lib.hid (wrong_all hw)
  have F := Lib.hid (show maxE ls = (bestE x l, 0) by have hxl := HXL.out; subst hxl; exact maxE_ok hw)
  have h0l : 0 < ls.length := by rw [HN.out]; omega
  obtain ⟨g, o, hC, A0, c0, hc0, hle0, hr0⟩ := HR.out 0 h0l
  subst hC
  have hx0 : ls[0] = x := by have hxl := HXL.out; subst hxl; rfl
  rw [hx0, Nat.add_zero] at hc0
  rw [hx0] at hle0 hr0
  have hxs := (rightE_ok (HRT.out x (by rw [HXL.out]; simp))).2.2
  have q00 := cell_below hB1 hc0
  obtain ⟨n0, hn0'⟩ : ∃ m, x.length = m := ⟨_, rfl⟩
  rw [hn0'] at q00 hle0 hxs
  have HN0 := Lib.hid hn0'
  have HR0 := Lib.hid hr0
  have hnp : (0 : Int) < (n : Int) := by omega
  have HB1 := Lib.hid hB1
  clear hw hr0 hn0' hx0 hc0 hB1
  go_wp2
  go_loopw [5, 6] (fun mv iv wr => ∃ (i : Nat) (m : List CellD) (nm : Nat) (Am : Option Addr) (cm : Nat), 1 ≤ i ∧ i ≤ n ∧ iv = .int .i64 i ∧ mv = .slice Am nm cm ∧ nm ≤ cm ∧ nm ≤ 1024 ∧ Hid (m.length = nm) ∧ Hid (Reads w Am m) ∧ Hid (bestE m (ls.drop i) = bestE x l) ∧ Below w.heap.size w wr) (fun mv iv wr => n - (intOf iv).toNat)
  case atStart => exact ⟨1, x, n0, A0, c0, Nat.le_refl _, by omega, rfl, rfl, hle0, hxs, HN0, HR0, by show bestE x (ls.drop 1) = _; rw [HXL.out]; rfl, HB1.out⟩
  case round =>
    clear q00 hle0 HR0 HN0 hxs
    obtain ⟨i, m, nm, Am, cm, h1, hin, rfl, rfl, hmc, hml, hNM, hRm, hBe, hB⟩ := hrel
    by_cases hlt : i < n
    · have hil : i < ls.length := by rw [HN.out]; exact hlt
      obtain ⟨g', o', hC', Ai, ci, hci, hlei, hri⟩ := HR.out i hil
      obtain ⟨rfl, rfl⟩ : g = g' ∧ o = o' := by simpa using hC'
      have hfi := (rightE_ok (HRT.out _ (List.getElem_mem hil))).2.2
      have hdr := List.drop_eq_getElem_cons hil
      have q0 := cell_below hB hci
      obtain ⟨y, hy⟩ : ∃ y, ls[i] = y := ⟨_, rfl⟩
      rw [hy] at q0 hlei hri hfi hdr
      obtain ⟨ny, hny⟩ : ∃ k, y.length = k := ⟨_, rfl⟩
      rw [hny] at q0 hlei hfi
      have HNY := Lib.hid hny
      have HRY := Lib.hid hri
      have HBE := Lib.hid (show bestE (if 0 < termCmp y m then y else m) (ls.drop (i + 1)) = bestE x l by rw [← hBe.out, hdr]; rfl)
      have hk1 : (i : Int) < (n : Int) := by omega
      have hk0 : (0 : Int) ≤ (i : Int) := by omega
      have w3 : IntKind.i64.wrap ((i : Int) + 1) = (i : Int) + 1 := by rw [IntKind.wrap_i64]; omega
      clear hci hri hy hny hC' hdr hBe
      go_wp2_with fail
      refine (rorder_any y m _ _ HNY.out hNM.out Ai Am ci cm _ (HRY.out.below hB) (hRm.out.below hB) (by omega) (by omega)).mono ?_
      rintro e w5 ⟨rfl, hb5⟩
      have hB5 := below_then hB hb5
      have q1 := cell_below hb5 q0
      by_cases hcm : 0 < termCmp y m
      · have hcb : decide (0 < termCmp y m) = true := decide_eq_true hcm
        have HBE2 := Lib.hid (show bestE y (ls.drop (i + 1)) = bestE x l by rw [← HBE.out, if_pos hcm])
        clear hb5 hB q0
        go_wp2
        go_roundw
        case rel => exact ⟨i + 1, y, ny, Ai, ci, by omega, by omega, by go_num, rfl, hlei, hfi, HNY, HRY, HBE2, hB5⟩
        case measure => simp [intOf]; omega
      · have hcb : decide (0 < termCmp y m) = false := decide_eq_false hcm
        have HBE2 := Lib.hid (show bestE m (ls.drop (i + 1)) = bestE x l by rw [← HBE.out, if_neg hcm])
        clear hb5 hB q0
        go_wp2
        go_roundw
        case rel => exact ⟨i + 1, m, nm, Am, cm, by omega, by omega, by go_num, rfl, hmc, hml, hNM, hRm, HBE2, hB5⟩
        case measure => simp [intOf]; omega
    · have hk1 : ¬ (i : Int) < (n : Int) := by omega
      have hme : m = bestE x l := by
        rw [← hBe.out, List.drop_eq_nil_of_le (by rw [HN.out]; omega)]; rfl
      have HME := Lib.hid hme
      clear hme
      go_wp2
      go_ret2
      rw [F.out, ← HME.out]
      have hnm := hNM.out
      subst hnm
      exact ⟨Am, cm, rfl, hmc, hRm.out.below hB, hB⟩
end Go.Proofs.YtfeaolnklooanaaDoor.Tm
