/- Layer 5's 'known': fixed calls. -/
import Derived.Test.YtefpolgflimlgaaDoorTup
import Derived.Test.YtefpolgflimlgaaDoorSameR
import Derived.Deep.RegionHeld3
import Derived.BigQuiet
namespace Go.Proofs.YtefpolgflimlgaaDoor.Tm
open Go.RowKit
set_option linter.unusedVariables false
set_option linter.unusedSimpArgs false

theorem right_single {c : CellD} (h : cellE c = 0) (k : kidsD c = 0) : rightE [c] = (0, 0) := by
  rw [rightE, if_neg (by simp), if_neg (by simp), rightL, if_neg (by simp [h]), if_neg (by omega), k, rightL, if_neg (by omega)]
theorem cell_int (n : Int) : cellE (intC n) = 0 := by simp [cellE, intC, noText, ByteArray.size]
theorem cell_bin {s : ByteArray} (h : s.size ≤ 1024) : cellE (binC s) = 0 := by simp [cellE, binC]; omega
theorem ok_a : okFrom ⟨#[97]⟩ 0 = true := by
  have h1 : badAt ⟨#[97]⟩ 0 = false := by decide +kernel
  have h2 : (Utf8.decode ⟨#[97]⟩ 0).2 = 1 := by decide +kernel
  rw [okFrom, if_pos (by decide), if_neg (by simp [h1]), h2, okFrom, if_neg (by decide)]
theorem cell_a : cellE (atomC ⟨#[97]⟩) = 0 := by simp [cellE, atomC, utf8B, ok_a, ByteArray.size]
def kX : ByteArray := ⟨#[120]⟩
theorem known_cmp : compareE [intC 7] [atomC ⟨#[97]⟩] = (-1, 0) := by
  have h : wrongE [[intC 7], [atomC ⟨#[97]⟩]] = 0 := by
    unfold wrongE
    rw [right_single (cell_int 7) rfl, if_neg (by simp), wrongE, right_single cell_a rfl, if_neg (by simp), wrongE]
  rw [compareE, if_neg (by simp [h])]
  rfl
theorem known_tup : tupleE [[intC 1], [binC kX]] = ([tupC 2, intC 1, binC kX], 0) := by
  have h : wrongE [[intC 1], [binC kX]] = 0 := by
    unfold wrongE
    rw [right_single (cell_int 1) rfl, if_neg (by simp), wrongE, right_single (cell_bin (by decide)) rfl, if_neg (by simp), wrongE]
  rw [tupleE, if_neg (by simp [h]), if_neg (by simp), joinE, if_neg (by simp [sumL])]
  rfl
theorem fine_one {c : CellD} (h : c.text.size ≤ 9223372036854775807) : Fine [c] := ⟨by simp, fun j hj => by
  have : j = 0 := by simpa using hj
  subst this
  exact h⟩
set_option maxHeartbeats 2000000 in
theorem known5_any (w : World) (hT : Tabs w) : Calls Tryd.prog 25 #[] w fun e w' => e = .returned (.bool true) ∧ Below w.heap.size w w' := by
  have HT := Lib.hid hT
  clear hT
  go_enter Tryd.func25, Tryd.ntmps25
  go_wp2_with fail
  refine (int_any 7 _).mono ?_
  rintro e w1 ⟨A1, c1, rfl, h1⟩
  have H1 := Lib.hid h1
  have hB1 := h1.bel
  clear h1
  go_wp2_with fail
  refine (atom_any ⟨#[97]⟩ _).mono ?_
  rintro e w2 ⟨A2, c2, rfl, h2⟩
  have H2 := Lib.hid h2
  have hb2 := h2.bel
  have hB2 := below_then hB1 hb2
  clear h2
  go_wp2_with fail
  refine (Compare_any [intC 7] [atomC ⟨#[97]⟩] A1 A2 c1 c2 _ (H1.out.reads.below hb2) H2.out.reads (fine_one (by decide)) (fine_one (by decide)) H1.out.cap H2.out.cap (Utf8Tabs_below HT.out hB2)).mono ?_
  rintro e w3 ⟨rfl, hb3⟩
  rw [known_cmp]
  have hB3 := below_then hB2 hb3
  go_wp2_with fail
  refine (int_any 1 _).mono ?_
  rintro e w4 ⟨A4, c4, rfl, h4⟩
  have H4 := Lib.hid h4
  have hb4 := h4.bel
  have hB4 := below_then hB3 hb4
  clear h4
  go_wp2_with fail
  refine (bin_any kX _).mono ?_
  rintro e w5 ⟨A5, c5, rfl, h5⟩
  have H5 := Lib.hid h5
  have hb5 := h5.bel
  have hB5 := below_then hB4 hb5
  clear h5
  go_wp2_with fail
  have HS := Lib.hid (slAt_new2 (t := 22) (H4.out.reads.below hb5) H4.out.cap H5.out.reads H5.out.cap)
  have hB6 := below_then hB5 (below_one w5 (.cells #[.slice A4 1 c4, .slice A5 1 c5] 22))
  refine (tuple_any [[intC 1], [binC kX]] (some ⟨w5.heap.size, 0, none⟩) 2 _ HS.out (two_fine (fine_one (by decide)) (fine_one (by decide))) (by simp) (Utf8Tabs_below HT.out hB6)).mono ?_
  rintro e w7 ⟨A7, c7, rfl, h7⟩
  rw [known_tup] at h7
  rw [known_tup]
  have H7 := Lib.hid h7
  have hB7 := below_then hB6 h7.bel
  clear h7
  go_wp2_with fail
  refine (rsame_any A7 _ c7 3 [tupC 2, intC 1, binC kX] [tupC 2, intC 1, binC kX] _ (H7.out.reads.below (below_one _ _)) (reads_new w7 rfl) (by simp) (by simp)).mono ?_
  rintro e w8 ⟨rfl, hb8⟩
  rw [show decide ([tupC 2, intC 1, binC kX] = [tupC 2, intC 1, binC kX]) = true by simp]
  have hB8 := below_then (below_then hB7 (below_one _ _)) hb8
  go_wp2
  go_ret
  exact ⟨rfl, hB8⟩
end Go.Proofs.YtefpolgflimlgaaDoor.Tm
