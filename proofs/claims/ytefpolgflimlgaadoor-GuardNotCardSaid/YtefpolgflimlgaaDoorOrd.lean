/- Layer 5: wrong, Compare, one-cell terms, Tuple, Cons, List: what each answers. -/
import Derived.Test.YtefpolgflimlgaaDoorJoin
import Derived.Test.YtefpolgflimlgaaDoorCompare
import Derived.Test.YtefpolgflimlgaaDoorRight
namespace Go.Proofs.YtefpolgflimlgaaDoor.Tm
open Go.RowKit
set_option linter.unusedVariables false
set_option linter.unusedSimpArgs false

abbrev Tabs (w : World) : Prop := Lib.Utf8Tabs 1 2 w
theorem two_fine {l m : List CellD} (h : Fine l) (k : Fine m) : Fine2 [l, m] := Fine2.cons h (Fine2.cons k Fine2.nil)
theorem one_fine {l : List CellD} (h : Fine l) : Fine2 [l] := Fine2.cons h Fine2.nil
set_option maxHeartbeats 1000000 in
theorem wrong_any (ls : List (List CellD)) (A : Option Addr) (c : Nat) (w : World) (hr : Reads2 w A ls) (hf : Fine2 ls) (hn : ls.length ≤ 1000000000000000) (hT : Tabs w) :
    Calls Tryd.prog 102 #[.slice A ls.length c] w fun e w' => e = .returned (.int .i64 (wrongE ls)) ∧ Below w.heap.size w w' := by
  have HR := Lib.hid hr
  have HF := Lib.hid hf
  have HT := Lib.hid hT
  clear hr hf hT
  go_enter Tryd.func102, Tryd.ntmps102
  go_wp2_with fail
  go_loopw [9] (fun i wr => ∃ j : Nat, j ≤ ls.length ∧ i = .int .i64 j ∧ Below w.heap.size w wr ∧ Hid (wrongE ls = wrongE (ls.drop j))) (fun i wr => ls.length - (intOf i).toNat)
  case atStart => exact ⟨0, Nat.zero_le _, rfl, Below.refl _ _, rfl⟩
  case round =>
    obtain ⟨j, hj, rfl, hB, hH⟩ := hrel
    by_cases hlt : j < ls.length
    · obtain ⟨b, o, hA, Aj, cj, q0, q1, q2⟩ := HR.out j hlt
      subst hA
      have q0' := cell_below hB q0
      have hfj := HF.out j hlt
      have HFJ := Lib.hid hfj
      have hi1 : (j : Int) < (ls.length : Int) := by omega
      have hi0 : (0 : Int) ≤ (j : Int) := Int.natCast_nonneg _
      clear q0 hfj
      go_wp2_with fail
      refine (wright_any ls[j] Aj cj _ (q2.below hB) HFJ.out.text HFJ.out.lim (Utf8Tabs_below HT.out hB)).mono ?_
      rintro e w1 ⟨rfl, hb⟩
      have hB1 := below_then hB hb
      by_cases he : (rightE ls[j]).1 = 0
      · have hF := Lib.hid (hH.out.trans (wrong_next hlt he))
        have ht : ((rightE ls[j]).1 != 0) = false := by rw [bne_eq_false_iff_eq]; exact he
        clear hH he
        go_wp2
        go_roundw
        case rel => exact ⟨j + 1, by omega, by go_num, hB1, hF⟩
        case measure => simp [intOf]; omega
      · have hF := Lib.hid (hH.out.trans (wrong_bad hlt he))
        have ht : ((rightE ls[j]).1 != 0) = true := by rw [bne_iff_ne]; exact he
        clear hH he
        go_wp2
        go_ret
        exact ⟨by rw [hF.out]; rfl, hB1⟩
    · have hF := Lib.hid (hH.out.trans (wrong_done (by omega)))
      clear hH
      go_wp2
      go_ret
      exact ⟨by rw [hF.out]; rfl, hB⟩
def compareE (l m : List CellD) : Int × Int := if wrongE [l, m] ≠ 0 then (0, wrongE [l, m]) else (termCmp l m, 0)
set_option maxHeartbeats 1000000 in
theorem Compare_any (l m : List CellD) (A B : Option Addr) (c d : Nat) (w : World) (hr : Reads w A l) (hr2 : Reads w B m) (hf : Fine l) (hf2 : Fine m) (hc : l.length ≤ c) (hd : m.length ≤ d) (hT : Tabs w) :
    Calls Tryd.prog 24 #[.slice A l.length c, .slice B m.length d] w fun e w' => e = .returned (.tuple #[.int .i64 (compareE l m).1, .int .i64 (compareE l m).2]) ∧ Below w.heap.size w w' := by
  have HR := Lib.hid hr
  have HR2 := Lib.hid hr2
  have HF := Lib.hid hf
  have HF2 := Lib.hid hf2
  have HT := Lib.hid hT
  have HS := Lib.hid (slAt_new2 (t := 22) hr hc hr2 hd)
  clear hr hr2 hf hf2 hT
  go_enter Tryd.func24, Tryd.ntmps24
  go_wp2_with fail
  refine (wrong_any [l, m] _ 2 _ HS.out (two_fine HF.out HF2.out) (by simp) (Utf8Tabs_below HT.out (below_one _ _))).mono ?_
  rintro e w1 ⟨rfl, hb⟩
  have hB1 := below_then (below_one _ _) hb
  clear hb
  by_cases he : wrongE [l, m] = 0
  · have hF := Lib.hid (show compareE l m = (termCmp l m, 0) by rw [compareE, if_neg (by simp [he])])
    have ht : (wrongE [l, m] != 0) = false := by rw [bne_eq_false_iff_eq]; exact he
    clear he
    go_wp2_with fail
    refine (compare_any l m A B c d _ (HR.out.below hB1) (HR2.out.below hB1) HF.out.lim HF2.out.lim).mono ?_
    rintro e w2 ⟨rfl, hb2⟩
    have hB2 := below_then hB1 hb2
    go_wp2
    go_ret2
    exact ⟨by rw [hF.out]; rfl, hB2⟩
  · have hF := Lib.hid (show compareE l m = (0, wrongE [l, m]) by rw [compareE, if_pos he])
    have ht : (wrongE [l, m] != 0) = true := by rw [bne_iff_ne]; exact he
    clear he
    go_wp2
    go_ret2
    exact ⟨by rw [hF.out]; rfl, hB1⟩
end Go.Proofs.YtefpolgflimlgaaDoor.Tm
