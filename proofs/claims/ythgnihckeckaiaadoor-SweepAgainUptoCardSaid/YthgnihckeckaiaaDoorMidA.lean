/- MidA: several texts in one. -/
import Derived.Test.YthgnihckeckaiaaDoorBase
import Derived.Test.YthgnihckeckaiaaDoorCellW
import Derived.Test.YthgnihckeckaiaaDoorCellR
/- Right of both texts tells rightE. -/
namespace Go.Proofs.YthgnihckeckaiaaDoor.Tm
open Go.RowKit
set_option linter.unusedVariables false
set_option linter.unusedSimpArgs false

set_option maxHeartbeats 2000000 in
theorem wright_any (l : List CellD) (A : Option Addr) (cap : Nat) (w : World) (hr : Reads w A l) (hs : ∀ j (h : j < l.length), (l[j]).text.size ≤ 9223372036854775807) (hl : l.length ≤ 1000000000000000)
    (hT : Lib.Utf8Tabs 1 2 w) :
    Calls Tryd.prog 57 #[.slice A l.length cap] w fun e w' => e = .returned (.tuple #[.int .i64 (rightE l).1, .int .i64 (rightE l).2]) ∧ Below w.heap.size w w' := by
  by_cases h0 : l.length = 0
  · have H := Lib.hid (show rightE l = (5, 0) by rw [rightE, if_pos h0])
    clear hr hs
    go_enter Tryd.func57, Tryd.ntmps57
    go_wp2
    go_ret2
    exact ⟨by rw [H.out]; rfl, Below.refl _ _⟩
  by_cases h1 : 1024 < l.length
  · have H := Lib.hid (show rightE l = (7, 0) by rw [rightE, if_neg h0, if_pos h1])
    clear hr hs
    go_enter Tryd.func57, Tryd.ntmps57
    go_wp2
    go_ret2
    exact ⟨by rw [H.out]; rfl, Below.refl _ _⟩
  have H := Lib.hid (show rightE l = rightL (l.drop 0) 0 1 by rw [rightE, if_neg h0, if_neg h1]; rfl)
  have hl0 : ((l.length : Int) == 0) = false := beq_eq_false_iff_ne.2 (by omega)
  have hl1 : (decide (1024 < (l.length : Int))) = false := decide_eq_false (by omega)
  have HR := Lib.hid hr
  have HS := Lib.hid hs
  have HT := Lib.hid hT
  clear hr hs hT
  go_enter Tryd.func57, Tryd.ntmps57
  go_wp2_with fail
  go_loopw [4, 18] (fun o i wr => ∃ j : Nat, ∃ ov : Int, j ≤ l.length ∧ o = .int .i64 ov ∧ i = .int .i64 j ∧ 0 ≤ ov ∧ ov ≤ 1 + 255 * (j : Int) ∧ Below w.heap.size w wr ∧ Hid (rightE l = rightL (l.drop j) j ov)) (fun o i wr => l.length - (intOf i).toNat)
  case atStart => exact ⟨0, 1, by omega, rfl, rfl, by omega, by omega, Below.refl _ _, H⟩
  case round =>
    obtain ⟨j, ov, hj, rfl, rfl, ho0, ho1, hB, hH⟩ := hrel
    by_cases hlt : j < l.length
    · obtain ⟨b, o, rfl, hc⟩ := HR.out j hlt
      have hc' := hc.below hB
      obtain ⟨hc0, hc1, hc2⟩ := hc'
      have hsz := HS.out j hlt
      have hT1 := Lib.hid (Utf8Tabs_below HT.out hB)
      go_wp2_with fail
      refine (wcell_any l[j] _ hsz (Utf8Tabs_below hT1.out (below_one _ _))).mono ?_
      rintro e w' ⟨rfl, hb⟩
      have hB2 := below_then hB (below_then (below_one _ _) hb)
      have f0 := cell_below hb (a := ⟨wr.heap.size, 0, none⟩) (v := .int .i64 l[j].kind) (by go_cell)
      have f1 := cell_below hb (a := ⟨wr.heap.size, 1, none⟩) (v := .int .i64 l[j].n) (by go_cell)
      have f2 := cell_below hb (a := ⟨wr.heap.size, 2, none⟩) (v := .string l[j].text) (by go_cell)
      by_cases he : cellE l[j] = 0
      · by_cases ho : ov = 0
        · have hF := Lib.hid (hH.out.trans (right_more hlt he ho))
          subst ho
          rw [he]
          clear hH H
          go_wp2
          go_ret2
          exact ⟨by rw [hF.out]; rfl, hB2⟩
        · have hF := Lib.hid (hH.out.trans (right_next hlt he ho))
          have hk := kidsD_le l[j]
          rw [he]
          clear hH H
          go_wp2_with fail
          refine (behind_any l[j] _).mono ?_
          rintro e w2 ⟨rfl, hb2⟩
          have hB3 := below_then hB2 hb2
          go_wp2
          go_roundw
          case rel => exact ⟨j + 1, ov - 1 + kidsD l[j], by omega, by go_num, by go_num, by omega, by omega, hB3, hF⟩
          case measure => simp [intOf]; omega
      · have hF := Lib.hid (hH.out.trans (right_bad hlt he))
        clear hH H
        go_wp2
        go_ret2
        exact ⟨by rw [hF.out]; rfl, hB2⟩
    · by_cases hov : 0 < ov
      · have hF := Lib.hid (hH.out.trans (right_short (by omega) hov))
        clear hH H
        go_wp2
        go_ret2
        exact ⟨by rw [hF.out, show j = l.length by omega]; rfl, hB⟩
      · have hF := Lib.hid (hH.out.trans (right_done (by omega) hov))
        clear hH H
        go_wp2
        go_ret2
        exact ⟨by rw [hF.out]; rfl, hB⟩
set_option maxHeartbeats 2000000 in
theorem rright_any (l : List CellD) (A : Option Addr) (cap : Nat) (w : World) (hr : Reads w A l) (hs : ∀ j (h : j < l.length), (l[j]).text.size ≤ 9223372036854775807) (hl : l.length ≤ 1000000000000000) :
    Calls Tryd.prog 61 #[.slice A l.length cap] w fun e w' => e = .returned (.tuple #[.int .i64 (rightE l).1, .int .i64 (rightE l).2]) ∧ Below w.heap.size w w' := by
  by_cases h0 : l.length = 0
  · have H := Lib.hid (show rightE l = (5, 0) by rw [rightE, if_pos h0])
    clear hr hs
    go_enter Tryd.func61, Tryd.ntmps61
    go_wp2
    go_ret2
    exact ⟨by rw [H.out]; rfl, Below.refl _ _⟩
  by_cases h1 : 1024 < l.length
  · have H := Lib.hid (show rightE l = (7, 0) by rw [rightE, if_neg h0, if_pos h1])
    clear hr hs
    go_enter Tryd.func61, Tryd.ntmps61
    go_wp2
    go_ret2
    exact ⟨by rw [H.out]; rfl, Below.refl _ _⟩
  have H := Lib.hid (show rightE l = rightL (l.drop 0) 0 1 by rw [rightE, if_neg h0, if_neg h1]; rfl)
  have hl0 : ((l.length : Int) == 0) = false := beq_eq_false_iff_ne.2 (by omega)
  have hl1 : (decide (1024 < (l.length : Int))) = false := decide_eq_false (by omega)
  have HR := Lib.hid hr
  have HS := Lib.hid hs
  clear hr hs
  go_enter Tryd.func61, Tryd.ntmps61
  go_wp2_with fail
  go_loopw [4, 5] (fun o i wr => ∃ j : Nat, ∃ ov : Int, j ≤ l.length ∧ o = .int .i64 ov ∧ i = .int .i64 j ∧ 0 ≤ ov ∧ ov ≤ 1 + 255 * (j : Int) ∧ Below w.heap.size w wr ∧ Hid (rightE l = rightL (l.drop j) j ov)) (fun o i wr => l.length - (intOf i).toNat)
  case atStart => exact ⟨0, 1, by omega, rfl, rfl, by omega, by omega, Below.refl _ _, H⟩
  case round =>
    obtain ⟨j, ov, hj, rfl, rfl, ho0, ho1, hB, hH⟩ := hrel
    by_cases hlt : j < l.length
    · obtain ⟨b, o, rfl, hc⟩ := HR.out j hlt
      have hc' := hc.below hB
      obtain ⟨hc0, hc1, hc2⟩ := hc'
      have hsz := HS.out j hlt
      go_wp2_with fail
      refine (rcell_any l[j] _ hsz).mono ?_
      rintro e w' ⟨rfl, hb⟩
      have hB2 := below_then hB hb
      have f0 := cell_below hb hc0
      have f1 := cell_below hb hc1
      have f2 := cell_below hb hc2
      by_cases he : cellE l[j] = 0
      · by_cases ho : ov = 0
        · have hF := Lib.hid (hH.out.trans (right_more hlt he ho))
          subst ho
          rw [he]
          clear hH H
          go_wp2
          go_ret2
          exact ⟨by rw [hF.out]; rfl, hB2⟩
        · have hF := Lib.hid (hH.out.trans (right_next hlt he ho))
          have hk := kidsD_le l[j]
          rw [he]
          clear hH H
          go_wp2_with fail
          refine (rkids_any l[j] _).mono ?_
          rintro e w2 ⟨rfl, hb2⟩
          have hB3 := below_then hB2 hb2
          go_wp2
          go_roundw
          case rel => exact ⟨j + 1, ov - 1 + kidsD l[j], by omega, by go_num, by go_num, by omega, by omega, hB3, hF⟩
          case measure => simp [intOf]; omega
      · have hF := Lib.hid (hH.out.trans (right_bad hlt he))
        clear hH H
        go_wp2
        go_ret2
        exact ⟨by rw [hF.out]; rfl, hB2⟩
    · by_cases hov : 0 < ov
      · have hF := Lib.hid (hH.out.trans (right_short (by omega) hov))
        clear hH H
        go_wp2
        go_ret2
        exact ⟨by rw [hF.out, show j = l.length by omega]; rfl, hB⟩
      · have hF := Lib.hid (hH.out.trans (right_done (by omega) hov))
        clear hH H
        go_wp2
        go_ret2
        exact ⟨by rw [hF.out]; rfl, hB⟩
end Go.Proofs.YthgnihckeckaiaaDoor.Tm
