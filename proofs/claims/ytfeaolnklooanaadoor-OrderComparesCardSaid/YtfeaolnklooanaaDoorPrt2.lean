/- Part and Parts of a term. -/
import Derived.Test.YtfeaolnklooanaaDoorPrt
import Derived.Test.YtfeaolnklooanaaDoorRws
namespace Go.Proofs.YtfeaolnklooanaaDoor.Tm
open Go.RowKit
set_option linter.unusedVariables false
set_option linter.unusedSimpArgs false

theorem wrong_one (t : List CellD) : wrongE [t] = (rightE t).1 := by
  rw [wrongE]
  split
  · rfl
  · rename_i h; rw [wrongE]; exact (Decidable.not_not.1 h).symm
def partE (t : List CellD) (i : Int) : List CellD × Int :=
  if (rightE t).1 ≠ 0 then ([], (rightE t).1) else if i < 0 ∨ ((partsE t).length : Int) ≤ i then ([], 1) else ((partsE t).getD i.toNat [], 0)
theorem part_bad {t : List CellD} {i : Int} (h : (rightE t).1 ≠ 0) : partE t i = ([], (rightE t).1) := by rw [partE, if_pos h]
theorem part_out {t : List CellD} {i : Int} (h : (rightE t).1 = 0) (k : i < 0 ∨ ((partsE t).length : Int) ≤ i) : partE t i = ([], 1) := by rw [partE, if_neg (by simp [h]), if_pos k]
theorem part_in {t : List CellD} {j : Nat} (h : (rightE t).1 = 0) (k : j < (partsE t).length) : partE t (j : Int) = ((partsE t)[j], 0) := by
  rw [partE, if_neg (by simp [h]), if_neg (by omega)]
  simp [List.getD_eq_getElem?_getD, List.getElem?_eq_getElem k]
theorem SlsAt.cell {w : World} {base cap : Nat} {A : Option Addr} {ls : List (List CellD)} (h : SlsAt w base A cap ls) {j : Nat} (hj : j < ls.length) :
    ∃ g Aj cj, A = some ⟨g, 0, none⟩ ∧ w.cell? ⟨g, j, none⟩ = some (.slice Aj ls[j].length cj) ∧ ls[j].length ≤ cj ∧ Reads w Aj ls[j] := by
  obtain ⟨vs, h1, h2⟩ := h
  obtain ⟨Aj, cj, e, p⟩ := h2.2 j hj
  obtain ⟨g, rfl, _, _⟩ := row_form h1 (by omega)
  exact ⟨g, Aj, cj, rfl, row_cell1 h1 e, p.1, p.2⟩
set_option maxRecDepth 100000 in
set_option maxHeartbeats 4000000 in
theorem opart_any (t : List CellD) (i : Int) (B : Option Addr) (ct : Nat) (w : World) (ht : Reads w B t) (hf : Fine t) (hct : t.length ≤ ct) (hT : Tabs w) :
    Calls Tryd.prog 8 #[.slice B t.length ct, .int .i64 i] w (IsTermE w (partE t i)) := by
  have HT := Lib.hid ht
  have HF := Lib.hid hf
  have HTT := Lib.hid hT
  have HS := Lib.hid (slAt_new1 (t := 22) ht hct)
  have HF1 := Lib.hid (show Fine2 [t] from fun j hj => by have : j = 0 := by simpa using hj
                                                          subst this; exact hf)
  clear ht hf hT
  go_enter Tryd.func8, Tryd.ntmps8
  go_wp2_with fail
  refine (wrong_any [t] _ 1 _ HS.out HF1.out (by simp) (Utf8Tabs_below HTT.out (below_one _ _))).mono ?_
  rw [wrong_one]
  rintro e w1 ⟨rfl, hb1⟩
  have hB1 := below_then (below_one _ _) hb1
  clear hb1
  by_cases et : (rightE t).1 ≠ 0
  · have F := Lib.hid (part_bad (i := i) et)
    have te : ((rightE t).1 != 0) = true := by rw [bne_iff_ne]; exact et
    clear et
    go_wp2
    go_ret2
    exact (IsTermE.none_ hB1).eq F.out
  have et : (rightE t).1 = 0 := Decidable.not_not.1 et
  have te : ((rightE t).1 != 0) = false := by rw [bne_eq_false_iff_eq]; exact et
  have ET := Lib.hid et
  have hps := partsE_small t
  have hpl := partsE_len t
  have htl := (rightE_ok et).2.2
  clear et
  go_wp2_with fail
  refine (parts_any t B ct _ (HT.out.below hB1) hct ET.out).mono ?_
  rintro e w2 ⟨A2, c2, rfl, hS2, hb2⟩
  have hB2 := below_then hB1 hb2
  have HS2 := Lib.hid hS2
  clear hS2 hb2 hB1
  by_cases hneg : i < 0
  · have F := Lib.hid (part_out ET.out (.inl hneg))
    have d1 : decide (i < 0) = true := decide_eq_true hneg
    clear hneg
    go_wp2
    go_ret2
    exact (IsTermE.none_ hB2).eq F.out
  by_cases hbig : ((partsE t).length : Int) ≤ i
  · have F := Lib.hid (part_out ET.out (.inr hbig))
    have d1 : decide (i < 0) = false := decide_eq_false hneg
    have d2 : decide (((partsE t).length : Int) ≤ i) = true := decide_eq_true hbig
    clear hneg hbig
    go_wp2
    go_ret2
    exact (IsTermE.none_ hB2).eq F.out
  obtain ⟨j, rfl⟩ : ∃ j : Nat, i = (j : Int) := ⟨i.toNat, by omega⟩
  have hj : j < (partsE t).length := by omega
  have F := Lib.hid (part_in ET.out hj)
  obtain ⟨g, Aj, cj, rfl, q0, q1, q2⟩ := HS2.out.cell hj
  have hpj := hps _ (List.getElem_mem hj)
  have Q2 := Lib.hid q2
  have d1 : decide ((j : Int) < 0) = false := decide_eq_false hneg
  have d2 : decide (((partsE t).length : Int) ≤ (j : Int)) = false := decide_eq_false hbig
  have hi1 : (j : Int) < ((partsE t).length : Int) := by omega
  have hi0 : (0 : Int) ≤ (j : Int) := Int.natCast_nonneg _
  generalize (partsE t)[j] = part at *
  clear hneg hbig q2 hps
  go_wp2_with fail
  refine (clone_any part Aj cj _ Q2.out (by omega)).mono ?_
  rintro e w3 ⟨A3, c3, rfl, hw⟩
  go_wp2
  go_ret2
  exact ((show IsTermE _ (part, 0) _ _ from ⟨A3, c3, rfl, hw⟩).up hB2).eq F.out
set_option maxRecDepth 100000 in
set_option maxHeartbeats 4000000 in
theorem rpart_any (t : List CellD) (i : Int) (B : Option Addr) (ct : Nat) (w : World) (ht : Reads w B t) (hf : Fine t) (hct : t.length ≤ ct) :
    Calls Tryd.prog 9 #[.slice B t.length ct, .int .i64 i] w (TermPost w (partE t i)) := by
  have HT := Lib.hid ht
  have HF := Lib.hid hf
  have hlt := hf.lim
  clear ht hf
  go_enter Tryd.func9, Tryd.ntmps9
  go_wp2_with fail
  refine (rright_any t B ct _ HT.out HF.out.text hlt).mono ?_
  rintro e w1 ⟨rfl, hB1⟩
  by_cases et : (rightE t).1 ≠ 0
  · have F := Lib.hid (part_bad (i := i) et)
    have te : ((rightE t).1 != 0) = true := by rw [bne_iff_ne]; exact et
    clear et
    go_wp2
    go_ret2
    exact TermPost.no F.out hB1
  have et : (rightE t).1 = 0 := Decidable.not_not.1 et
  have te : ((rightE t).1 != 0) = false := by rw [bne_eq_false_iff_eq]; exact et
  have ET := Lib.hid et
  clear et
  go_wp2_with fail
  refine (wparts_any t B ct _ (HT.out.below hB1) hct ET.out).mono ?_
  rintro e w2 ⟨A2, c2, rfl, hS2, hb2⟩
  have hB2 := below_then hB1 hb2
  have HS2 := Lib.hid hS2
  clear hS2 hb2 hB1
  by_cases hneg : i < 0
  · have F := Lib.hid (part_out ET.out (.inl hneg))
    have d1 : decide (i < 0) = true := decide_eq_true hneg
    clear hneg
    go_wp2
    go_ret2
    exact TermPost.no F.out hB2
  by_cases hbig : ((partsE t).length : Int) ≤ i
  · have F := Lib.hid (part_out ET.out (.inr hbig))
    have d1 : decide (i < 0) = false := decide_eq_false hneg
    have d2 : decide (((partsE t).length : Int) ≤ i) = true := decide_eq_true hbig
    clear hneg hbig
    go_wp2
    go_ret2
    exact TermPost.no F.out hB2
  obtain ⟨j, rfl⟩ : ∃ j : Nat, i = (j : Int) := ⟨i.toNat, by omega⟩
  have hj : j < (partsE t).length := by omega
  have F := Lib.hid (part_in ET.out hj)
  obtain ⟨g, Aj, cj, rfl, q0, q1, q2⟩ := HS2.out.cell hj
  have Q2 := Lib.hid q2
  have d1 : decide ((j : Int) < 0) = false := decide_eq_false hneg
  have d2 : decide (((partsE t).length : Int) ≤ (j : Int)) = false := decide_eq_false hbig
  have hi1 : (j : Int) < ((partsE t).length : Int) := by omega
  have hi0 : (0 : Int) ≤ (j : Int) := Int.natCast_nonneg _
  generalize (partsE t)[j] = part at *
  clear hneg hbig q2
  go_wp2
  go_ret2
  rw [F.out]
  exact ⟨Aj, cj, rfl, q1, Q2.out, hB2⟩
def partsR (t : List CellD) : List (List CellD) := if (rightE t).1 ≠ 0 then [] else partsE t
theorem SlsAt.nil_ (w : World) (base : Nat) : SlsAt w base none 0 [] := ⟨[], row_nil _ _ _ _, Each.nil⟩
set_option maxRecDepth 100000 in
set_option maxHeartbeats 4000000 in
theorem rparts_any (t : List CellD) (B : Option Addr) (ct : Nat) (w : World) (ht : Reads w B t) (hf : Fine t) (hct : t.length ≤ ct) :
    Calls Tryd.prog 12 #[.slice B t.length ct] w fun e w' => ∃ A' c', e = .returned (.slice A' (partsR t).length c') ∧ SlsAt w' w.heap.size A' c' (partsR t) ∧ Below w.heap.size w w' := by
  have HT := Lib.hid ht
  have HF := Lib.hid hf
  have hlt := hf.lim
  clear ht hf
  go_enter Tryd.func12, Tryd.ntmps12
  go_wp2_with fail
  refine (rright_any t B ct _ HT.out HF.out.text hlt).mono ?_
  rintro e w1 ⟨rfl, hB1⟩
  by_cases et : (rightE t).1 ≠ 0
  · have F := Lib.hid (show partsR t = [] by rw [partsR, if_pos et])
    have te : ((rightE t).1 != 0) = true := by rw [bne_iff_ne]; exact et
    clear et
    go_wp2
    go_ret
    rw [F.out]
    exact ⟨none, 0, rfl, SlsAt.nil_ _ _, hB1⟩
  have et : (rightE t).1 = 0 := Decidable.not_not.1 et
  have te : ((rightE t).1 != 0) = false := by rw [bne_eq_false_iff_eq]; exact et
  have ET := Lib.hid et
  have F := Lib.hid (show partsR t = partsE t by rw [partsR, if_neg (by simp [et])])
  have hsz := hB1.size
  clear et
  go_wp2_with fail
  refine (wparts_any t B ct _ (HT.out.below hB1) hct ET.out).mono ?_
  rintro e w2 ⟨A2, c2, rfl, hS2, hb2⟩
  have hB2 := below_then hB1 hb2
  obtain ⟨vs, s1, s2⟩ := hS2
  have HS2 := Lib.hid (show SlsAt w2 w.heap.size A2 c2 (partsE t) from ⟨vs, row_mono s1 hsz, s2⟩)
  clear s1 s2 hb2 hB1
  go_wp2
  go_ret
  rw [F.out]
  exact ⟨A2, c2, rfl, HS2.out, hB2⟩
end Go.Proofs.YtfeaolnklooanaaDoor.Tm
