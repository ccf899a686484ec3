/- order.Max: a copy of the greatest term. -/
import Derived.Test.YtfeaolnklooanaaDoorOrdP
import Derived.Test.YtfeaolnklooanaaDoorOElem
import Derived.Test.YtfeaolnklooanaaDoorBackP
import Derived.LoopN
namespace Go.Proofs.YtfeaolnklooanaaDoor.Tm
open Go.RowKit
set_option linter.unusedVariables false
set_option linter.unusedSimpArgs false

/-- The first of the greatest ones. -/
def bestE : List CellD → List (List CellD) → List CellD
  | b, [] => b
  | b, x :: l => bestE (if 0 < termCmp x b then x else b) l
def maxE (ls : List (List CellD)) : List CellD × Int := match ls with
  | [] => ([], 5)
  | x :: l => if wrongE (x :: l) ≠ 0 then ([], wrongE (x :: l)) else (bestE x l, 0)
theorem cmp_len (l m : List CellD) (n1 n2 : Nat) (h1 : l.length = n1) (h2 : m.length = n2) (A B : Option Addr) (c1 c2 : Nat) (w : World) (hr : Reads w A l) (hr2 : Reads w B m) (hl : l.length ≤ 1000000000000000) (hm : m.length ≤ 1000000000000000) :
    Calls Tryd.prog 46 #[.slice A n1 c1, .slice B n2 c2] w fun e w' => e = .returned (.int .i64 (termCmp l m)) ∧ Below w.heap.size w w' := by
  subst h1
  subst h2
  exact compare_any l m A B c1 c2 w hr hr2 hl hm
set_option maxRecDepth 100000 in
set_option maxHeartbeats 8000000 in
theorem maxFunc_any (x : List CellD) (l : List (List CellD)) (C : Option Addr) (c : Nat) (n : Nat) (hn : (x :: l).length = n) (w : World) (hr : Reads2 w C (x :: l)) (hf : ∀ y ∈ x :: l, y.length ≤ 1000000000000000) (hl : n ≤ 1000000000000000) :
    Calls Tryd.prog 48 #[.slice C n c, .func (.func 46) #[] #[]] w fun e w' => ∃ A k, e = .returned (.slice A (bestE x l).length k) ∧ (bestE x l).length ≤ k ∧ Reads w' A (bestE x l) ∧ Below w.heap.size w w' := by
  have HR := Lib.hid hr
  have HF := Lib.hid hf
  have HN := Lib.hid hn
  obtain ⟨g, o, hC, A0, c0, hc0, hle0, hr0⟩ := hr 0 (by simp)
  subst hC
  have hn1 : ¬ (n : Int) < 1 := by simp at hn; omega
  have hn0 : (0 : Int) < (n : Int) := by simp at hn; omega
  simp only [List.getElem_cons_zero, Nat.add_zero] at hc0 hle0 hr0
  have hx := hf x (by simp)
  obtain ⟨n0, hn0'⟩ : ∃ m, x.length = m := ⟨_, rfl⟩
  rw [hn0'] at hc0 hle0 hx
  have HN0 := Lib.hid hn0'
  have HR0 := Lib.hid hr0
  clear hr hf hn hr0 hn0'
  go_enter Tryd.func48, Tryd.ntmps48
  go_wp2
  go_loopw [5, 6] (fun mv iv wr => ∃ (i : Nat) (m : List CellD) (nm : Nat) (Am : Option Addr) (cm : Nat), 1 ≤ i ∧ i ≤ n ∧ iv = .int .i64 i ∧ mv = .slice Am nm cm ∧ nm ≤ cm ∧ nm ≤ 1000000000000000 ∧ Hid (m.length = nm) ∧ Hid (Reads w Am m) ∧ Hid (bestE m ((x :: l).drop i) = bestE x l) ∧ Below w.heap.size w wr) (fun mv iv wr => n - (intOf iv).toNat)
  case atStart => exact ⟨1, x, n0, A0, c0, Nat.le_refl _, by omega, rfl, rfl, hle0, hx, HN0, HR0, rfl, Below.refl _ _⟩
  case round =>
    clear hc0 hle0 HR0 HN0 hx
    obtain ⟨i, m, nm, Am, cm, h1, hin, rfl, rfl, hmc, hml, hNM, hRm, hBe, hB⟩ := hrel
    by_cases hlt : i < n
    · have hil : i < (x :: l).length := by rw [HN.out]; exact hlt
      obtain ⟨g', o', hC', Ai, ci, hci, hlei, hri⟩ := HR.out i hil
      obtain ⟨rfl, rfl⟩ : g = g' ∧ o = o' := by simpa using hC'
      have hfi := HF.out _ (List.getElem_mem hil)
      have hdr := List.drop_eq_getElem_cons hil
      have q0 := cell_below hB hci
      obtain ⟨y, hy⟩ : ∃ y, (x :: l)[i] = y := ⟨_, rfl⟩
      rw [hy] at q0 hlei hri hfi hdr
      obtain ⟨ny, hny⟩ : ∃ k, y.length = k := ⟨_, rfl⟩
      rw [hny] at q0 hlei hfi
      have HNY := Lib.hid hny
      have HRY := Lib.hid hri
      have HBE := Lib.hid (show bestE (if 0 < termCmp y m then y else m) ((x :: l).drop (i + 1)) = bestE x l by rw [← hBe.out, hdr]; rfl)
      have hk1 : (i : Int) < (n : Int) := by omega
      have hk0 : (0 : Int) ≤ (i : Int) := by omega
      have w3 : IntKind.i64.wrap ((i : Int) + 1) = (i : Int) + 1 := by rw [IntKind.wrap_i64]; omega
      clear hci hri hy hny hC' hdr hBe
      go_wp2_with fail
      refine (cmp_len y m _ _ HNY.out hNM.out Ai Am ci cm _ (HRY.out.below hB) (hRm.out.below hB) (by rw [HNY.out]; exact hfi) (by rw [hNM.out]; exact hml)).mono ?_
      rintro e w5 ⟨rfl, hb5⟩
      have hB5 := below_then hB hb5
      have q1 := cell_below hb5 q0
      by_cases hcm : 0 < termCmp y m
      · have hcb : decide (0 < termCmp y m) = true := decide_eq_true hcm
        have HBE2 := Lib.hid (show bestE y ((x :: l).drop (i + 1)) = bestE x l by rw [← HBE.out, if_pos hcm])
        clear hb5 hB q0
        go_wp2
        go_roundw
        case rel => exact ⟨i + 1, y, ny, Ai, ci, by omega, by omega, by go_num, rfl, hlei, hfi, HNY, HRY, HBE2, hB5⟩
        case measure => simp [intOf]; omega
      · have hcb : decide (0 < termCmp y m) = false := decide_eq_false hcm
        have HBE2 := Lib.hid (show bestE m ((x :: l).drop (i + 1)) = bestE x l by rw [← HBE.out, if_neg hcm])
        clear hb5 hB q0
        go_wp2
        go_roundw
        case rel => exact ⟨i + 1, m, nm, Am, cm, by omega, by omega, by go_num, rfl, hmc, hml, hNM, hRm, HBE2, hB5⟩
        case measure => simp [intOf]; omega
    · have hk1 : ¬ (i : Int) < (n : Int) := by omega
      have hme : m = bestE x l := by
        rw [← hBe.out, List.drop_eq_nil_of_le (by rw [HN.out]; omega)]; rfl
      have HME := Lib.hid hme
      clear hme
      go_wp2
      go_ret
      rw [← HME.out, hNM.out]
      exact ⟨Am, cm, rfl, hmc, hRm.out.below hB, hB⟩
theorem maxE_bad {x : List CellD} {l : List (List CellD)} (h : wrongE (x :: l) ≠ 0) : maxE (x :: l) = ([], wrongE (x :: l)) := by
  show (if wrongE (x :: l) ≠ 0 then ([], wrongE (x :: l)) else (bestE x l, 0)) = _
  rw [if_pos h]
theorem maxE_ok {x : List CellD} {l : List (List CellD)} (h : wrongE (x :: l) = 0) : maxE (x :: l) = (bestE x l, 0) := by
  show (if wrongE (x :: l) ≠ 0 then ([], wrongE (x :: l)) else (bestE x l, 0)) = _
  rw [if_neg (by simp [h])]
theorem bestE_mem : ∀ (l : List (List CellD)) (b : List CellD), bestE b l ∈ b :: l
  | [], b => by simp [bestE]
  | x :: l, b => by
    rw [bestE]
    have := bestE_mem l (if 0 < termCmp x b then x else b)
    rcases List.mem_cons.1 this with h | h
    · rw [h]; split <;> simp
    · simp [h]
theorem bestE_len {x : List CellD} {l : List (List CellD)} (h : wrongE (x :: l) = 0) : (bestE x l).length ≤ 1024 := (rightE_ok (wrong_all h _ (bestE_mem l x))).2.2
theorem maxE_len (ls : List (List CellD)) : (maxE ls).1.length ≤ 1024 := by
  cases ls with
  | nil => simp [maxE]
  | cons x l =>
    by_cases h : wrongE (x :: l) = 0
    · rw [maxE_ok h]; exact bestE_len h
    · rw [maxE_bad h]; simp
set_option maxRecDepth 100000 in
set_option maxHeartbeats 8000000 in
theorem omax_any (ls : List (List CellD)) (A : Option Addr) (c : Nat) (w : World) (hr : Reads2 w A ls) (hf : Fine2 ls) (hn : ls.length * 24 ≤ 140737488351232) (hT : Tabs w) :
    Calls Tryd.prog 29 #[.slice A ls.length c] w (IsTermE w (maxE ls)) := by
  have HR := Lib.hid hr
  have HF := Lib.hid hf
  have HT := Lib.hid hT
  obtain ⟨n, hn'⟩ : ∃ n, ls.length = n := ⟨_, rfl⟩
  have HN := Lib.hid hn'
  have HWA := Lib.hid (show Calls Tryd.prog 34 #[.slice A n c] w _ from hn' ▸ wrong_any ls A c w hr hf (by omega) hT)
  rw [hn'] at hn ⊢
  clear hr hf hT hn'
  by_cases h0 : n = 0
  · have hz : ((n : Int) == 0) = true := by simp [h0]
    have F := Lib.hid (show maxE ls = ([], 5) by have : ls = [] := List.eq_nil_of_length_eq_zero (by rw [HN.out]; exact h0)
                                                 subst this; rfl)
    have H0 := Lib.hid h0
    clear h0
    go_enter Tryd.func29, Tryd.ntmps29
    go_wp2
    go_ret2
    rw [F.out]
    exact ⟨none, 0, rfl, row_nil _ _ _ _, Below.refl _ _⟩
  have hz : ((n : Int) == 0) = false := by rw [beq_eq_false_iff_ne]; omega
  obtain ⟨x, l, hxl⟩ : ∃ x l, ls = x :: l := by
    cases ls with
    | nil => exact absurd HN.out.symm h0
    | cons x l => exact ⟨x, l, rfl⟩
  have HXL := Lib.hid hxl
  clear hxl
  go_enter Tryd.func29, Tryd.ntmps29
  go_wp2_with fail
  refine HWA.out.mono ?_
  rintro e w1 ⟨rfl, hB1⟩
  by_cases hw : wrongE ls ≠ 0
  · have te : (wrongE ls != 0) = true := by rw [bne_iff_ne]; exact hw
    have F := Lib.hid (show maxE ls = ([], wrongE ls) by have hxl := HXL.out; subst hxl; exact maxE_bad hw)
    clear hw
    go_wp2
    go_ret2
    rw [F.out]
    exact ⟨none, 0, rfl, row_nil _ _ _ _, hB1⟩
  have hw : wrongE ls = 0 := Decidable.not_not.1 hw
  have te : (wrongE ls != 0) = false := by rw [bne_eq_false_iff_eq]; exact hw
  have HRT := Lib.hid (wrong_all hw)
  have F := Lib.hid (show maxE ls = (bestE x l, 0) by have hxl := HXL.out; subst hxl; exact maxE_ok hw)
  have HBL := Lib.hid (show (bestE x l).length ≤ 1024 by have hxl := HXL.out; subst hxl; exact bestE_len hw)
  have HM := Lib.hid (show Calls Tryd.prog 48 #[.slice A n c, .func (.func 46) #[] #[]] w1 _ from maxFunc_any x l A c n (by rw [← HXL.out]; exact HN.out) w1 (by rw [← HXL.out]; exact HR.out.below hB1) (fun y hy => by have := (rightE_ok (HRT.out y (by rw [HXL.out]; exact hy))).2.2; omega) (by omega))
  clear hw
  go_wp2_with fail
  refine HM.out.mono ?_
  rintro e w2 ⟨A2, k2, rfl, hk2, hr2, hb2⟩
  have hB2 := below_then hB1 hb2
  have HR2 := Lib.hid hr2
  obtain ⟨b, hb⟩ : ∃ b, bestE x l = b := ⟨_, rfl⟩
  rw [hb] at HR2 HBL F hk2 ⊢
  clear hr2 hb hb2 HM
  go_wp2_with fail
  refine (clone_any b A2 k2 _ HR2.out (by have := HBL.out; omega)).mono ?_
  rintro e w3 ⟨A3, c3, rfl, hown⟩
  have HO := Lib.hid (row_mono hown.row hB2.size)
  have hB3 := below_then hB2 hown.bel
  clear hown
  go_wp2
  go_ret2
  rw [F.out]
  exact ⟨A3, c3, rfl, HO.out, hB3⟩
end Go.Proofs.YtfeaolnklooanaaDoor.Tm
