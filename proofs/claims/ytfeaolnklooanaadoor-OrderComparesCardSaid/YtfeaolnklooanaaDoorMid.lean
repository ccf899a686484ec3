/- Mid: several texts in one. -/
import Derived.Test.YtfeaolnklooanaaDoorBase
import Derived.Test.YtfeaolnklooanaaDoorCellW
import Derived.Test.YtfeaolnklooanaaDoorCellR
import Derived.Deep.RegionHeld3
import Derived.BigQuiet
import Derived.Handy
/- Right of both texts tells rightE. -/
namespace Go.Proofs.YtfeaolnklooanaaDoor.Tm
open Go.RowKit
set_option linter.unusedVariables false
set_option linter.unusedSimpArgs false

set_option maxHeartbeats 2000000 in
theorem wright_any (l : List CellD) (A : Option Addr) (cap : Nat) (w : World) (hr : Reads w A l) (hs : ∀ j (h : j < l.length), (l[j]).text.size ≤ 9223372036854775807) (hl : l.length ≤ 1000000000000000)
    (hT : Lib.Utf8Tabs 1 2 w) :
    Calls Tryd.prog 51 #[.slice A l.length cap] w fun e w' => e = .returned (.tuple #[.int .i64 (rightE l).1, .int .i64 (rightE l).2]) ∧ Below w.heap.size w w' := by
  by_cases h0 : l.length = 0
  · have H := Lib.hid (show rightE l = (5, 0) by rw [rightE, if_pos h0])
    clear hr hs
    go_enter Tryd.func51, Tryd.ntmps51
    go_wp2
    go_ret2
    exact ⟨by rw [H.out]; rfl, Below.refl _ _⟩
  by_cases h1 : 1024 < l.length
  · have H := Lib.hid (show rightE l = (7, 0) by rw [rightE, if_neg h0, if_pos h1])
    clear hr hs
    go_enter Tryd.func51, Tryd.ntmps51
    go_wp2
    go_ret2
    exact ⟨by rw [H.out]; rfl, Below.refl _ _⟩
  have H := Lib.hid (show rightE l = rightL (l.drop 0) 0 1 by rw [rightE, if_neg h0, if_neg h1]; rfl)
  have hl0 : ((l.length : Int) == 0) = false := beq_eq_false_iff_ne.2 (by omega)
  have hl1 : (decide (1024 < (l.length : Int))) = false := decide_eq_false (by omega)
  have HR := Lib.hid hr
  have HS := Lib.hid hs
  have HT := Lib.hid hT
  clear hr hs hT
  go_enter Tryd.func51, Tryd.ntmps51
  go_wp2_with fail
  go_loopw [4, 18] (fun o i wr => ∃ j : Nat, ∃ ov : Int, j ≤ l.length ∧ o = .int .i64 ov ∧ i = .int .i64 j ∧ 0 ≤ ov ∧ ov ≤ 1 + 255 * (j : Int) ∧ Below w.heap.size w wr ∧ Hid (rightE l = rightL (l.drop j) j ov)) (fun o i wr => l.length - (intOf i).toNat)
  case atStart => exact ⟨0, 1, by omega, rfl, rfl, by omega, by omega, Below.refl _ _, H⟩
  case round =>
    obtain ⟨j, ov, hj, rfl, rfl, ho0, ho1, hB, hH⟩ := hrel
    by_cases hlt : j < l.length
    · obtain ⟨b, o, rfl, hc⟩ := HR.out j hlt
      have hc' := hc.below hB
      obtain ⟨hc0, hc1, hc2⟩ := hc'
      have hsz := HS.out j hlt
      have hT1 := Lib.hid (Utf8Tabs_below HT.out hB)
      go_wp2_with fail
      refine (wcell_any l[j] _ hsz (Utf8Tabs_below hT1.out (below_one _ _))).mono ?_
      rintro e w' ⟨rfl, hb⟩
      have hB2 := below_then hB (below_then (below_one _ _) hb)
      have f0 := cell_below hb (a := ⟨wr.heap.size, 0, none⟩) (v := .int .i64 l[j].kind) (by go_cell)
      have f1 := cell_below hb (a := ⟨wr.heap.size, 1, none⟩) (v := .int .i64 l[j].n) (by go_cell)
      have f2 := cell_below hb (a := ⟨wr.heap.size, 2, none⟩) (v := .string l[j].text) (by go_cell)
      by_cases he : cellE l[j] = 0
      · by_cases ho : ov = 0
        · have hF := Lib.hid (hH.out.trans (right_more hlt he ho))
          subst ho
          rw [he]
          clear hH H
          go_wp2
          go_ret2
          exact ⟨by rw [hF.out]; rfl, hB2⟩
        · have hF := Lib.hid (hH.out.trans (right_next hlt he ho))
          have hk := kidsD_le l[j]
          rw [he]
          clear hH H
          go_wp2_with fail
          refine (behind_any l[j] _).mono ?_
          rintro e w2 ⟨rfl, hb2⟩
          have hB3 := below_then hB2 hb2
          go_wp2
          go_roundw
          case rel => exact ⟨j + 1, ov - 1 + kidsD l[j], by omega, by go_num, by go_num, by omega, by omega, hB3, hF⟩
          case measure => simp [intOf]; omega
      · have hF := Lib.hid (hH.out.trans (right_bad hlt he))
        clear hH H
        go_wp2
        go_ret2
        exact ⟨by rw [hF.out]; rfl, hB2⟩
    · by_cases hov : 0 < ov
      · have hF := Lib.hid (hH.out.trans (right_short (by omega) hov))
        clear hH H
        go_wp2
        go_ret2
        exact ⟨by rw [hF.out, show j = l.length by omega]; rfl, hB⟩
      · have hF := Lib.hid (hH.out.trans (right_done (by omega) hov))
        clear hH H
        go_wp2
        go_ret2
        exact ⟨by rw [hF.out]; rfl, hB⟩
set_option maxHeartbeats 2000000 in
theorem rright_any (l : List CellD) (A : Option Addr) (cap : Nat) (w : World) (hr : Reads w A l) (hs : ∀ j (h : j < l.length), (l[j]).text.size ≤ 9223372036854775807) (hl : l.length ≤ 1000000000000000) :
    Calls Tryd.prog 21 #[.slice A l.length cap] w fun e w' => e = .returned (.tuple #[.int .i64 (rightE l).1, .int .i64 (rightE l).2]) ∧ Below w.heap.size w w' := by
  by_cases h0 : l.length = 0
  · have H := Lib.hid (show rightE l = (5, 0) by rw [rightE, if_pos h0])
    clear hr hs
    go_enter Tryd.func21, Tryd.ntmps21
    go_wp2
    go_ret2
    exact ⟨by rw [H.out]; rfl, Below.refl _ _⟩
  by_cases h1 : 1024 < l.length
  · have H := Lib.hid (show rightE l = (7, 0) by rw [rightE, if_neg h0, if_pos h1])
    clear hr hs
    go_enter Tryd.func21, Tryd.ntmps21
    go_wp2
    go_ret2
    exact ⟨by rw [H.out]; rfl, Below.refl _ _⟩
  have H := Lib.hid (show rightE l = rightL (l.drop 0) 0 1 by rw [rightE, if_neg h0, if_neg h1]; rfl)
  have hl0 : ((l.length : Int) == 0) = false := beq_eq_false_iff_ne.2 (by omega)
  have hl1 : (decide (1024 < (l.length : Int))) = false := decide_eq_false (by omega)
  have HR := Lib.hid hr
  have HS := Lib.hid hs
  clear hr hs
  go_enter Tryd.func21, Tryd.ntmps21
  go_wp2_with fail
  go_loopw [4, 5] (fun o i wr => ∃ j : Nat, ∃ ov : Int, j ≤ l.length ∧ o = .int .i64 ov ∧ i = .int .i64 j ∧ 0 ≤ ov ∧ ov ≤ 1 + 255 * (j : Int) ∧ Below w.heap.size w wr ∧ Hid (rightE l = rightL (l.drop j) j ov)) (fun o i wr => l.length - (intOf i).toNat)
  case atStart => exact ⟨0, 1, by omega, rfl, rfl, by omega, by omega, Below.refl _ _, H⟩
  case round =>
    obtain ⟨j, ov, hj, rfl, rfl, ho0, ho1, hB, hH⟩ := hrel
    by_cases hlt : j < l.length
    · obtain ⟨b, o, rfl, hc⟩ := HR.out j hlt
      have hc' := hc.below hB
      obtain ⟨hc0, hc1, hc2⟩ := hc'
      have hsz := HS.out j hlt
      go_wp2_with fail
      refine (rcell_any l[j] _ hsz).mono ?_
      rintro e w' ⟨rfl, hb⟩
      have hB2 := below_then hB hb
      have f0 := cell_below hb hc0
      have f1 := cell_below hb hc1
      have f2 := cell_below hb hc2
      by_cases he : cellE l[j] = 0
      · by_cases ho : ov = 0
        · have hF := Lib.hid (hH.out.trans (right_more hlt he ho))
          subst ho
          rw [he]
          clear hH H
          go_wp2
          go_ret2
          exact ⟨by rw [hF.out]; rfl, hB2⟩
        · have hF := Lib.hid (hH.out.trans (right_next hlt he ho))
          have hk := kidsD_le l[j]
          rw [he]
          clear hH H
          go_wp2_with fail
          refine (rkids_any l[j] _).mono ?_
          rintro e w2 ⟨rfl, hb2⟩
          have hB3 := below_then hB2 hb2
          go_wp2
          go_roundw
          case rel => exact ⟨j + 1, ov - 1 + kidsD l[j], by omega, by go_num, by go_num, by omega, by omega, hB3, hF⟩
          case measure => simp [intOf]; omega
      · have hF := Lib.hid (hH.out.trans (right_bad hlt he))
        clear hH H
        go_wp2
        go_ret2
        exact ⟨by rw [hF.out]; rfl, hB2⟩
    · by_cases hov : 0 < ov
      · have hF := Lib.hid (hH.out.trans (right_short (by omega) hov))
        clear hH H
        go_wp2
        go_ret2
        exact ⟨by rw [hF.out, show j = l.length by omega]; rfl, hB⟩
      · have hF := Lib.hid (hH.out.trans (right_done (by omega) hov))
        clear hH H
        go_wp2
        go_ret2
        exact ⟨by rw [hF.out]; rfl, hB⟩
end Go.Proofs.YtfeaolnklooanaaDoor.Tm
/- Layer 5: wrong, Compare, one-cell terms, Tuple, Cons, List: what each answers. -/
namespace Go.Proofs.YtfeaolnklooanaaDoor.Tm
open Go.RowKit
set_option linter.unusedVariables false
set_option linter.unusedSimpArgs false

abbrev Tabs (w : World) : Prop := Lib.Utf8Tabs 1 2 w
theorem two_fine {l m : List CellD} (h : Fine l) (k : Fine m) : Fine2 [l, m] := Fine2.cons h (Fine2.cons k Fine2.nil)
theorem one_fine {l : List CellD} (h : Fine l) : Fine2 [l] := Fine2.cons h Fine2.nil
set_option maxHeartbeats 1000000 in
theorem wrong_any (ls : List (List CellD)) (A : Option Addr) (c : Nat) (w : World) (hr : Reads2 w A ls) (hf : Fine2 ls) (hn : ls.length ≤ 1000000000000000) (hT : Tabs w) :
    Calls Tryd.prog 34 #[.slice A ls.length c] w fun e w' => e = .returned (.int .i64 (wrongE ls)) ∧ Below w.heap.size w w' := by
  have HR := Lib.hid hr
  have HF := Lib.hid hf
  have HT := Lib.hid hT
  clear hr hf hT
  go_enter Tryd.func34, Tryd.ntmps34
  go_wp2_with fail
  go_loopw [9] (fun i wr => ∃ j : Nat, j ≤ ls.length ∧ i = .int .i64 j ∧ Below w.heap.size w wr ∧ Hid (wrongE ls = wrongE (ls.drop j))) (fun i wr => ls.length - (intOf i).toNat)
  case atStart => exact ⟨0, Nat.zero_le _, rfl, Below.refl _ _, rfl⟩
  case round =>
    obtain ⟨j, hj, rfl, hB, hH⟩ := hrel
    by_cases hlt : j < ls.length
    · obtain ⟨b, o, hA, Aj, cj, q0, q1, q2⟩ := HR.out j hlt
      subst hA
      have q0' := cell_below hB q0
      have hfj := HF.out j hlt
      have HFJ := Lib.hid hfj
      have hi1 : (j : Int) < (ls.length : Int) := by omega
      have hi0 : (0 : Int) ≤ (j : Int) := Int.natCast_nonneg _
      clear q0 hfj
      go_wp2_with fail
      refine (wright_any ls[j] Aj cj _ (q2.below hB) HFJ.out.text HFJ.out.lim (Utf8Tabs_below HT.out hB)).mono ?_
      rintro e w1 ⟨rfl, hb⟩
      have hB1 := below_then hB hb
      by_cases he : (rightE ls[j]).1 = 0
      · have hF := Lib.hid (hH.out.trans (wrong_next hlt he))
        have ht : ((rightE ls[j]).1 != 0) = false := by rw [bne_eq_false_iff_eq]; exact he
        clear hH he
        go_wp2
        go_roundw
        case rel => exact ⟨j + 1, by omega, by go_num, hB1, hF⟩
        case measure => simp [intOf]; omega
      · have hF := Lib.hid (hH.out.trans (wrong_bad hlt he))
        have ht : ((rightE ls[j]).1 != 0) = true := by rw [bne_iff_ne]; exact he
        clear hH he
        go_wp2
        go_ret
        exact ⟨by rw [hF.out]; rfl, hB1⟩
    · have hF := Lib.hid (hH.out.trans (wrong_done (by omega)))
      clear hH
      go_wp2
      go_ret
      exact ⟨by rw [hF.out]; rfl, hB⟩
def compareE (l m : List CellD) : Int × Int := if wrongE [l, m] ≠ 0 then (0, wrongE [l, m]) else (termCmp l m, 0)
set_option maxHeartbeats 1000000 in
theorem Compare_any (l m : List CellD) (A B : Option Addr) (c d : Nat) (w : World) (hr : Reads w A l) (hr2 : Reads w B m) (hf : Fine l) (hf2 : Fine m) (hc : l.length ≤ c) (hd : m.length ≤ d) (hT : Tabs w) :
    Calls Tryd.prog 26 #[.slice A l.length c, .slice B m.length d] w fun e w' => e = .returned (.tuple #[.int .i64 (compareE l m).1, .int .i64 (compareE l m).2]) ∧ Below w.heap.size w w' := by
  have HR := Lib.hid hr
  have HR2 := Lib.hid hr2
  have HF := Lib.hid hf
  have HF2 := Lib.hid hf2
  have HT := Lib.hid hT
  have HS := Lib.hid (slAt_new2 (t := 22) hr hc hr2 hd)
  clear hr hr2 hf hf2 hT
  go_enter Tryd.func26, Tryd.ntmps26
  go_wp2_with fail
  refine (wrong_any [l, m] _ 2 _ HS.out (two_fine HF.out HF2.out) (by simp) (Utf8Tabs_below HT.out (below_one _ _))).mono ?_
  rintro e w1 ⟨rfl, hb⟩
  have hB1 := below_then (below_one _ _) hb
  clear hb
  by_cases he : wrongE [l, m] = 0
  · have hF := Lib.hid (show compareE l m = (termCmp l m, 0) by rw [compareE, if_neg (by simp [he])])
    have ht : (wrongE [l, m] != 0) = false := by rw [bne_eq_false_iff_eq]; exact he
    clear he
    go_wp2_with fail
    refine (compare_any l m A B c d _ (HR.out.below hB1) (HR2.out.below hB1) HF.out.lim HF2.out.lim).mono ?_
    rintro e w2 ⟨rfl, hb2⟩
    have hB2 := below_then hB1 hb2
    go_wp2
    go_ret2
    exact ⟨by rw [hF.out]; rfl, hB2⟩
  · have hF := Lib.hid (show compareE l m = (0, wrongE [l, m]) by rw [compareE, if_pos he])
    have ht : (wrongE [l, m] != 0) = true := by rw [bne_iff_ne]; exact he
    clear he
    go_wp2
    go_ret2
    exact ⟨by rw [hF.out]; rfl, hB1⟩
end Go.Proofs.YtfeaolnklooanaaDoor.Tm
/- Layer 5: Int, Atom, Bin, Tuple, Cons, List: what each answers. -/
namespace Go.Proofs.YtfeaolnklooanaaDoor.Tm
open Go.RowKit
set_option linter.unusedVariables false
set_option linter.unusedSimpArgs false

def noText : ByteArray := ⟨#[]⟩
def intC (n : Int) : CellD := ⟨1, n, noText⟩
def atomC (s : ByteArray) : CellD := ⟨2, 0, s⟩
def binC (s : ByteArray) : CellD := ⟨8, 0, s⟩
def tupC (n : Int) : CellD := ⟨5, n, noText⟩
def nilC : CellD := ⟨6, 0, noText⟩
def consC : CellD := ⟨7, 0, noText⟩
theorem row_one {w : World} {g base : Nat} {t : TypeId} {x y z : Value} (hb : base ≤ g) (h : w.heap[g]? = some (.cells #[x, y, z] t (0, 0))) : w.ownsRow base t 3 (.slice (some ⟨g, 0, none⟩) 1 1) 1 [x, y, z] :=
  ⟨rfl, .inr ⟨g, 1, #[x, y, z], rfl, hb, h, Nat.le_refl _, by unfold maxLen; omega, rfl, rfl⟩⟩
theorem int_any (n : Int) (w : World) : Calls Tryd.prog 25 #[.int .i64 n] w (IsTerm w [intC n]) := by
  go_enter Tryd.func25, Tryd.ntmps25
  go_wp2
  go_ret
  exact ⟨_, 1, rfl, row_one (Nat.le_refl _) (heap_new _ _), below_one _ _⟩
theorem atom_any (s : ByteArray) (w : World) : Calls Tryd.prog 41 #[.string s] w (IsTerm w [atomC s]) := by
  go_enter Tryd.func41, Tryd.ntmps41
  go_wp2
  go_ret
  exact ⟨_, 1, rfl, row_one (Nat.le_refl _) (heap_new _ _), below_one _ _⟩
theorem bin_any (s : ByteArray) (w : World) : Calls Tryd.prog 42 #[.string s] w (IsTerm w [binC s]) := by
  go_enter Tryd.func42, Tryd.ntmps42
  go_wp2
  go_ret
  exact ⟨_, 1, rfl, row_one (Nat.le_refl _) (heap_new _ _), below_one _ _⟩
theorem IsTermE.up {w w1 : World} {r : List CellD × Int} {e : Ending} {w' : World} (h : IsTermE w1 r e w') (hB : Below w.heap.size w w1) : IsTermE w r e w' := by
  obtain ⟨A, c, he, hr, hb⟩ := h
  exact ⟨A, c, he, row_mono hr hB.size, below_then hB hb⟩
theorem IsTermE.eq {w : World} {r r' : List CellD × Int} {e : Ending} {w' : World} (h : IsTermE w r e w') (hr : r' = r) : IsTermE w r' e w' := by rw [hr]; exact h
theorem IsTermE.none_ {w w' : World} {k : Int} (hB : Below w.heap.size w w') : IsTermE w ([], k) (.returned (.tuple #[.slice none 0 0, .int .i64 k])) w' :=
  ⟨none, 0, rfl, row_nil _ _ _ _, hB⟩
theorem reads_one {w : World} {g : Nat} {c : CellD} {t : TypeId} (h : w.heap[g]? = some (.cells #[.int .i64 c.kind, .int .i64 c.n, .string c.text] t (0, 0))) : Reads w (some ⟨g, 0, none⟩) [c] := fun j hj => by
  have : j = 0 := by simpa using hj
  subst this
  refine ⟨g, 0, rfl, ?_, ?_, ?_⟩ <;> simp [World.cell?, h]
def tupleE (ls : List (List CellD)) : List CellD × Int :=
  if wrongE ls ≠ 0 then ([], wrongE ls) else if 255 < ls.length then ([], 1) else joinE [tupC ls.length] [] [] ls
def consE (l m : List CellD) : List CellD × Int := if wrongE [l, m] ≠ 0 then ([], wrongE [l, m]) else joinE [consC] [] [] [l, m]
def listE (ls : List (List CellD)) : List CellD × Int := if wrongE ls ≠ 0 then ([], wrongE ls) else joinE [] [consC] [nilC] ls
set_option maxHeartbeats 1000000 in
theorem tuple_any (ls : List (List CellD)) (A : Option Addr) (c : Nat) (w : World) (hr : Reads2 w A ls) (hf : Fine2 ls) (hn : ls.length ≤ 1000000000000000) (hT : Tabs w) :
    Calls Tryd.prog 22 #[.slice A ls.length c] w (IsTermE w (tupleE ls)) := by
  have HR := Lib.hid hr
  have HF := Lib.hid hf
  have HT := Lib.hid hT
  clear hr hf hT
  go_enter Tryd.func22, Tryd.ntmps22
  go_wp2_with fail
  refine (wrong_any ls A c _ HR.out HF.out hn HT.out).mono ?_
  rintro e w1 ⟨rfl, hB1⟩
  by_cases he : wrongE ls = 0
  · have ht : (wrongE ls != 0) = false := by rw [bne_eq_false_iff_eq]; exact he
    by_cases hl : 255 < ls.length
    · have hF := Lib.hid (show tupleE ls = ([], 1) by rw [tupleE, if_neg (by simp [he]), if_pos hl])
      clear he
      go_wp2
      go_ret2
      exact (IsTermE.none_ hB1).eq hF.out
    · have hF := Lib.hid (show tupleE ls = joinE [tupC ls.length] [] [] ls by rw [tupleE, if_neg (by simp [he]), if_neg hl])
      have hl' : decide (255 < (ls.length : Int)) = false := decide_eq_false (by omega)
      clear he
      go_wp2_with fail
      have hb := below_one w1 (.cells #[.int .i64 5, .int .i64 (ls.length : Int), .string ⟨#[]⟩] 47)
      have hB2 := below_then hB1 hb
      refine (joined_any [tupC ls.length] [] [] ls (some ⟨w1.heap.size, 0, none⟩) none none A 1 0 0 c _ (reads_one (heap_new w1 _)) (Reads.nil _ _) (Reads.nil _ _) (HR.out.below hB2) (by simp) (by simp) (by simp) HF.out hn).mono ?_
      rintro e w2 ⟨A2, c2, rfl, hw⟩
      go_wp2
      go_ret2
      exact ((show IsTermE _ _ _ _ from ⟨A2, c2, rfl, hw⟩).up hB2).eq hF.out
  · have ht : (wrongE ls != 0) = true := by rw [bne_iff_ne]; exact he
    have hF := Lib.hid (show tupleE ls = ([], wrongE ls) by rw [tupleE, if_pos he])
    clear he
    go_wp2
    go_ret2
    exact (IsTermE.none_ hB1).eq hF.out
set_option maxHeartbeats 1000000 in
theorem cons_any (l m : List CellD) (A B : Option Addr) (c d : Nat) (w : World) (hr : Reads w A l) (hr2 : Reads w B m) (hf : Fine l) (hf2 : Fine m) (hc : l.length ≤ c) (hd : m.length ≤ d) (hT : Tabs w) :
    Calls Tryd.prog 24 #[.slice A l.length c, .slice B m.length d] w (IsTermE w (consE l m)) := by
  have HR := Lib.hid hr
  have HR2 := Lib.hid hr2
  have HF := Lib.hid (two_fine hf hf2)
  have HT := Lib.hid hT
  have HS := Lib.hid (slAt_new2 (t := 22) hr hc hr2 hd)
  clear hr hr2 hf hf2 hT
  go_enter Tryd.func24, Tryd.ntmps24
  go_wp2_with fail
  refine (wrong_any [l, m] _ 2 _ HS.out HF.out (by simp) (Utf8Tabs_below HT.out (below_one _ _))).mono ?_
  rintro e w1 ⟨rfl, hb1⟩
  have hB1 := below_then (below_one _ _) hb1
  clear hb1
  by_cases he : wrongE [l, m] = 0
  · have ht : (wrongE [l, m] != 0) = false := by rw [bne_eq_false_iff_eq]; exact he
    have hF := Lib.hid (show consE l m = joinE [consC] [] [] [l, m] by rw [consE, if_neg (by simp [he])])
    clear he
    go_wp2_with fail
    have hb := below_one w1 (.cells #[.int .i64 7, .int .i64 0, .string ⟨#[]⟩] 47)
    have hB2 := below_then hB1 hb
    have HS2 := Lib.hid (slAt_new2 (t := 22) (HR.out.below hB2) hc (HR2.out.below hB2) hd)
    have h0 := reads_one (c := consC) (heap_new w1 (.cells #[.int .i64 7, .int .i64 0, .string ⟨#[]⟩] 47))
    have hB3 := below_then hB2 (below_one _ (.cells #[.slice A l.length c, .slice B m.length d] 22))
    have H0 := Lib.hid (h0.below (below_one _ (.cells #[.slice A l.length c, .slice B m.length d] 22)))
    clear h0
    rw [World.size_alloc] at HS2
    refine (joined_any [consC] [] [] [l, m] (some ⟨w1.heap.size, 0, none⟩) none none (some ⟨w1.heap.size + 1, 0, none⟩) 1 0 0 2 _ H0.out (Reads.nil _ _) (Reads.nil _ _) HS2.out (by simp) (by simp) (by simp) HF.out (by simp)).mono ?_
    rintro e w2 ⟨A2, c2, rfl, hw⟩
    go_wp2
    go_ret2
    exact ((show IsTermE _ _ _ _ from ⟨A2, c2, rfl, hw⟩).up hB3).eq hF.out
  · have ht : (wrongE [l, m] != 0) = true := by rw [bne_iff_ne]; exact he
    have hF := Lib.hid (show consE l m = ([], wrongE [l, m]) by rw [consE, if_pos he])
    clear he
    go_wp2
    go_ret2
    exact (IsTermE.none_ hB1).eq hF.out
set_option maxHeartbeats 1000000 in
theorem list_any (ls : List (List CellD)) (A : Option Addr) (c : Nat) (w : World) (hr : Reads2 w A ls) (hf : Fine2 ls) (hn : ls.length ≤ 1000000000000000) (hT : Tabs w) :
    Calls Tryd.prog 23 #[.slice A ls.length c] w (IsTermE w (listE ls)) := by
  have HR := Lib.hid hr
  have HF := Lib.hid hf
  have HT := Lib.hid hT
  clear hr hf hT
  go_enter Tryd.func23, Tryd.ntmps23
  go_wp2_with fail
  refine (wrong_any ls A c _ HR.out HF.out hn HT.out).mono ?_
  rintro e w1 ⟨rfl, hB1⟩
  by_cases he : wrongE ls = 0
  · have ht : (wrongE ls != 0) = false := by rw [bne_eq_false_iff_eq]; exact he
    have hF := Lib.hid (show listE ls = joinE [] [consC] [nilC] ls by rw [listE, if_neg (by simp [he])])
    clear he
    go_wp2_with fail
    have h0 := reads_one (c := consC) (heap_new w1 (.cells #[.int .i64 7, .int .i64 0, .string ⟨#[]⟩] 47))
    have hb := below_one w1 (.cells #[.int .i64 7, .int .i64 0, .string ⟨#[]⟩] 47)
    have hb' := below_one (w1.alloc (.cells #[.int .i64 7, .int .i64 0, .string ⟨#[]⟩] 47)) (.cells #[.int .i64 6, .int .i64 0, .string ⟨#[]⟩] 47)
    have h1 := reads_one (c := nilC) (heap_new (w1.alloc (.cells #[.int .i64 7, .int .i64 0, .string ⟨#[]⟩] 47)) (.cells #[.int .i64 6, .int .i64 0, .string ⟨#[]⟩] 47))
    have hB3 := below_then (below_then hB1 hb) hb'
    have H0 := Lib.hid (h0.below hb')
    have H1 := Lib.hid h1
    clear h0 h1 hb hb'
    rw [World.size_alloc] at H1
    refine (joined_any [] [consC] [nilC] ls none (some ⟨w1.heap.size, 0, none⟩) (some ⟨w1.heap.size + 1, 0, none⟩) A 0 1 1 c _ (Reads.nil _ _) H0.out H1.out (HR.out.below hB3) (by simp) (by simp) (by simp) HF.out hn).mono ?_
    rintro e w2 ⟨A2, c2, rfl, hw⟩
    go_wp2
    go_ret2
    exact ((show IsTermE _ _ _ _ from ⟨A2, c2, rfl, hw⟩).up hB3).eq hF.out
  · have ht : (wrongE ls != 0) = true := by rw [bne_iff_ne]; exact he
    have hF := Lib.hid (show listE ls = ([], wrongE ls) by rw [listE, if_pos he])
    clear he
    go_wp2
    go_ret2
    exact (IsTermE.none_ hB1).eq hF.out
end Go.Proofs.YtfeaolnklooanaaDoor.Tm
/- Layer 9 as plain data: operands, tests, guards. -/
namespace Go.Proofs.YtfeaolnklooanaaDoor.Tm
set_option linter.unusedVariables false
set_option linter.unusedSimpArgs false

/-- A test; an operand has a cell's fields. -/
structure TestD where
  op : Int
  a : CellD
  b : CellD
deriving DecidableEq
def TestD.vals (t : TestD) : List Value := [.int .i64 t.op] ++ t.a.vals ++ t.b.vals
def noArg : CellD := ⟨0, 0, noText⟩
/-- Can an operand be? -/
def argB (a : CellD) : Bool :=
  if a.kind = 1 then decide (0 ≤ a.n) && (decide (a.n < 16) && a.text.toList.isEmpty)
  else if a.kind = 3 then a.text.toList.isEmpty
  else if a.kind = 4 then decide (a.n = 0) && decide (cellE (atomC a.text) = 0)
  else if a.kind = 5 then decide (a.n = 0) && a.text.toList.isEmpty
  else false
def opB (op : Int) : Bool := decide (1 ≤ op) && decide (op ≤ 13)
def testB (t : TestD) : Bool := opB t.op && (argB t.a && (if 6 < t.op then decide (t.b = noArg) else argB t.b))
/-- What is wrong of a guard. -/
def guardE (g : List TestD) : Int := if 16 < g.length then 4 else if g.all testB then 0 else 90
/-- What an operand is of registers. -/
def regD (x : List (List CellD)) (n : Int) : List CellD := if n < 0 then [] else x.getD n.toNat []
def valueD (a : CellD) (x : List (List CellD)) : List CellD :=
  if a.kind = 1 then regD x a.n else if a.kind = 3 then [intC a.n] else if a.kind = 4 then [atomC a.text] else if a.kind = 5 then [nilC] else []
/-- Does a test hold of terms? -/
def saysB (op : Int) (a b : List CellD) : Bool :=
  let k := (a.headD noArg).kind
  let c := termCmp a b
  if op = 1 then decide (c = 0) else if op = 2 then decide (c ≠ 0) else if op = 3 then decide (c < 0) else if op = 4 then decide (c ≤ 0) else if op = 5 then decide (0 < c) else if op = 6 then decide (0 ≤ c)
  else if op = 7 then decide (k = 1) else if op = 8 then decide (k = 2) else if op = 9 then decide (k = 3) else if op = 10 then decide (k = 4) else if op = 11 then decide (k = 5) else if op = 12 then decide (k = 6) || decide (k = 7) else decide (k = 8)
def holdB (x : List (List CellD)) (t : TestD) : Bool :=
  !((valueD t.a x).isEmpty || (decide (t.op ≤ 6) && (valueD t.b x).isEmpty)) && saysB t.op (valueD t.a x) (valueD t.b x)
/-- What is wrong of registers: those that are set. -/
def regsE : List (List CellD) → Int
  | [] => 0
  | l :: ls => if 0 < l.length ∧ (rightE l).1 ≠ 0 then (rightE l).1 else regsE ls
def holdsE (g : List TestD) (x : List (List CellD)) : Bool × Int :=
  if guardE g ≠ 0 then (false, guardE g) else if 16 < x.length then (false, 1) else if regsE x ≠ 0 then (false, regsE x) else (g.all (holdB x), 0)
end Go.Proofs.YtfeaolnklooanaaDoor.Tm
/- Layer 5's 'known': fixed calls. -/
namespace Go.Proofs.YtfeaolnklooanaaDoor.Tm
open Go.RowKit
set_option linter.unusedVariables false
set_option linter.unusedSimpArgs false

theorem right_single {c : CellD} (h : cellE c = 0) (k : kidsD c = 0) : rightE [c] = (0, 0) := by
  rw [rightE, if_neg (by simp), if_neg (by simp), rightL, if_neg (by simp [h]), if_neg (by omega), k, rightL, if_neg (by omega)]
theorem cell_int (n : Int) : cellE (intC n) = 0 := by simp [cellE, intC, noText, ByteArray.size]
theorem cell_bin {s : ByteArray} (h : s.size ≤ 1024) : cellE (binC s) = 0 := by simp [cellE, binC]; omega
theorem ok_a : okFrom ⟨#[97]⟩ 0 = true := by
  have h1 : badAt ⟨#[97]⟩ 0 = false := by decide +kernel
  have h2 : (Utf8.decode ⟨#[97]⟩ 0).2 = 1 := by decide +kernel
  rw [okFrom, if_pos (by decide), if_neg (by simp [h1]), h2, okFrom, if_neg (by decide)]
theorem cell_a : cellE (atomC ⟨#[97]⟩) = 0 := by simp [cellE, atomC, utf8B, ok_a, ByteArray.size]
def kX : ByteArray := ⟨#[120]⟩
theorem known_cmp : compareE [intC 7] [atomC ⟨#[97]⟩] = (-1, 0) := by
  have h : wrongE [[intC 7], [atomC ⟨#[97]⟩]] = 0 := by
    unfold wrongE
    rw [right_single (cell_int 7) rfl, if_neg (by simp), wrongE, right_single cell_a rfl, if_neg (by simp), wrongE]
  rw [compareE, if_neg (by simp [h])]
  rfl
theorem known_tup : tupleE [[intC 1], [binC kX]] = ([tupC 2, intC 1, binC kX], 0) := by
  have h : wrongE [[intC 1], [binC kX]] = 0 := by
    unfold wrongE
    rw [right_single (cell_int 1) rfl, if_neg (by simp), wrongE, right_single (cell_bin (by decide)) rfl, if_neg (by simp), wrongE]
  rw [tupleE, if_neg (by simp [h]), if_neg (by simp), joinE, if_neg (by simp [sumL])]
  rfl
theorem fine_one {c : CellD} (h : c.text.size ≤ 9223372036854775807) : Fine [c] := ⟨by simp, fun j hj => by
  have : j = 0 := by simpa using hj
  subst this
  exact h⟩
set_option maxHeartbeats 2000000 in
theorem known5_any (w : World) (hT : Tabs w) : Calls Tryd.prog 20 #[] w fun e w' => e = .returned (.bool true) ∧ Below w.heap.size w w' := by
  have HT := Lib.hid hT
  clear hT
  go_enter Tryd.func20, Tryd.ntmps20
  go_wp2_with fail
  refine (int_any 7 _).mono ?_
  rintro e w1 ⟨A1, c1, rfl, h1⟩
  have H1 := Lib.hid h1
  have hB1 := h1.bel
  clear h1
  go_wp2_with fail
  refine (atom_any ⟨#[97]⟩ _).mono ?_
  rintro e w2 ⟨A2, c2, rfl, h2⟩
  have H2 := Lib.hid h2
  have hb2 := h2.bel
  have hB2 := below_then hB1 hb2
  clear h2
  go_wp2_with fail
  refine (Compare_any [intC 7] [atomC ⟨#[97]⟩] A1 A2 c1 c2 _ (H1.out.reads.below hb2) H2.out.reads (fine_one (by decide)) (fine_one (by decide)) H1.out.cap H2.out.cap (Utf8Tabs_below HT.out hB2)).mono ?_
  rintro e w3 ⟨rfl, hb3⟩
  rw [known_cmp]
  have hB3 := below_then hB2 hb3
  go_wp2_with fail
  refine (int_any 1 _).mono ?_
  rintro e w4 ⟨A4, c4, rfl, h4⟩
  have H4 := Lib.hid h4
  have hb4 := h4.bel
  have hB4 := below_then hB3 hb4
  clear h4
  go_wp2_with fail
  refine (bin_any kX _).mono ?_
  rintro e w5 ⟨A5, c5, rfl, h5⟩
  have H5 := Lib.hid h5
  have hb5 := h5.bel
  have hB5 := below_then hB4 hb5
  clear h5
  go_wp2_with fail
  have HS := Lib.hid (slAt_new2 (t := 22) (H4.out.reads.below hb5) H4.out.cap H5.out.reads H5.out.cap)
  have hB6 := below_then hB5 (below_one w5 (.cells #[.slice A4 1 c4, .slice A5 1 c5] 22))
  refine (tuple_any [[intC 1], [binC kX]] (some ⟨w5.heap.size, 0, none⟩) 2 _ HS.out (two_fine (fine_one (by decide)) (fine_one (by decide))) (by simp) (Utf8Tabs_below HT.out hB6)).mono ?_
  rintro e w7 ⟨A7, c7, rfl, h7⟩
  rw [known_tup] at h7
  rw [known_tup]
  have H7 := Lib.hid h7
  have hB7 := below_then hB6 h7.bel
  clear h7
  go_wp2_with fail
  refine (rsame_any A7 _ c7 3 [tupC 2, intC 1, binC kX] [tupC 2, intC 1, binC kX] _ (H7.out.reads.below (below_one _ _)) (reads_new w7 rfl) (by simp) (by simp)).mono ?_
  rintro e w8 ⟨rfl, hb8⟩
  rw [show decide ([tupC 2, intC 1, binC kX] = [tupC 2, intC 1, binC kX]) = true by simp]
  have hB8 := below_then (below_then hB7 (below_one _ _)) hb8
  go_wp2
  go_ret
  exact ⟨rfl, hB8⟩
end Go.Proofs.YtfeaolnklooanaaDoor.Tm
/- Spoil: writes over a term of the call's own, and behind it. -/
namespace Go.Proofs.YtfeaolnklooanaaDoor.Tm
open Go.RowKit
set_option linter.unusedVariables false
set_option linter.unusedSimpArgs false

theorem row_form {w : World} {base n c : Nat} {e : TypeId} {size : Nat} {A : Option Addr} {xs : List Value} (h : w.ownsRow base e size (.slice A n c) n xs) (hn : 0 < n) : ∃ g, A = some ⟨g, 0, none⟩ ∧ base ≤ g ∧ g < w.heap.size := by
  rcases h.2 with ⟨_, h0⟩ | ⟨g, cap, cur, hv, hb, hh, _⟩
  · omega
  · obtain ⟨rfl, rfl⟩ : A = some ⟨g, 0, none⟩ ∧ c = cap := by simpa using hv
    exact ⟨g, rfl, hb, lt_of_block hh⟩
theorem row_some {w : World} {base n c g : Nat} {e : TypeId} {size : Nat} {xs : List Value} (h : w.ownsRow base e size (.slice (some ⟨g, 0, none⟩) n c) n xs) {j : Nat} (hj : j < n * size) : ∃ u, w.cell? ⟨g, j, none⟩ = some u := by
  have hl : j < xs.length := by rw [h.1]; exact hj
  exact ⟨xs[j], by rw [h.cellAt j hj, List.getElem?_eq_getElem hl]⟩
theorem below_set {B : Nat} {w W : World} (h : Below B w W) {g j : Nat} (hg : B ≤ g) (u : Value) : Below B w (W.setCell ⟨g, j, none⟩ u) := h.setCell hg u
def behC : CellD := ⟨0, 0, ⟨#[98, 101, 104, 105, 110, 100]⟩⟩
theorem grown_set {w W : World} {row : Option Nat} (h : w.grownBy W row) {g j : Nat} (hg : row = some g ∨ w.heap.size ≤ g) (u : Value) : w.grownBy (W.setCell ⟨g, j, none⟩ u) row :=
  ⟨h.os, h.tape, h.output, by simpa [World.setCell] using h.size, fun k hk hr => (Below.heap_setCell W ⟨g, j, none⟩ u k (by
    rintro rfl
    rcases hg with e | e
    · exact hr (by rw [e])
    · exact absurd hk (Nat.not_lt.2 e))).trans (h.block k hk hr)⟩
theorem grown_alloc {w W : World} {row : Option Nat} (h : w.grownBy W row) (o : Obj) : w.grownBy (W.alloc o) row :=
  ⟨h.os, h.tape, h.output, Nat.le_trans h.size (by simp), fun k hk hr => (Below.heap_alloc W o k (Nat.lt_of_lt_of_le hk h.size)).trans (h.block k hk hr)⟩
/-- Only the row of the call's own has turned, and what is new. -/
theorem spoil_grown {w W V : World} {row : Option Nat} (h : w.grownBy W row) (k : W.grownBy V row) : w.grownBy V row := grown_trans h k
set_option maxHeartbeats 2000000 in
theorem spoil_any (A : Option Addr) (n c base : Nat) (xs : List Value) (w : World) (h : w.ownsRow base 47 3 (.slice A n c) n xs) (hbs : base ≤ w.heap.size) (hn : n ≤ 1000000000000) :
    Calls Tryd.prog 11 #[.slice A n c] w fun e w' => e = .returned (.tuple #[]) ∧ w.grownBy w' (Value.slice A n c).ownBlock := by
  have H := Lib.hid h
  clear h
  go_enter Tryd.func11, Tryd.ntmps11
  go_wp2_with fail
  go_loopw [2] (fun i wr => ∃ k : Nat, ∃ ys : List Value, k ≤ n ∧ i = .int .i64 k ∧ Hid (wr.ownsRow base 47 3 (.slice A n c) n ys) ∧ Hid (w.grownBy wr (Value.slice A n c).ownBlock) ∧ w.heap.size ≤ wr.heap.size) (fun i wr => n - (intOf i).toNat)
  case atStart => exact ⟨0, xs, Nat.zero_le _, rfl, H, World.grownBy.refl w _, Nat.le_refl _⟩
  case round =>
    obtain ⟨k, ys, hk, rfl, hrow, hG, hsz⟩ := hrel
    by_cases hlt : k < n
    · obtain ⟨g, rfl, hg, hgl⟩ := row_form hrow.out (by omega)
      obtain ⟨u0, c0⟩ := row_some hrow.out (j := k * 3) (by omega)
      obtain ⟨u1, c1⟩ := row_some hrow.out (j := k * 3 + 1) (by omega)
      obtain ⟨u2, c2⟩ := row_some hrow.out (j := k * 3 + 2) (by omega)
      have f0 := hrow.out.frozenAt (k * 3)
      have f1 := hrow.out.frozenAt (k * 3 + 1)
      have f2 := hrow.out.frozenAt (k * 3 + 2)
      have hi1 : (k : Int) < (n : Int) := by omega
      have hi0 : (0 : Int) ≤ (k : Int) := Int.natCast_nonneg _
      go_wp2
      have s0 := hrow.out.stored (k * 3) (Value.int .i64 99)
      have s1 := s0.1.stored (k * 3 + 1) (Value.int .i64 99)
      have s2 := s1.1.stored (k * 3 + 2) (Value.string ⟨#[115, 112, 111, 105, 108, 116]⟩)
      refine ⟨⟨k + 1, _, by omega, by go_num, s2.1, grown_set (grown_set (grown_set hG.out (.inl rfl) _) (.inl rfl) _) (.inl rfl) _, by simpa using hsz⟩, ?_⟩
      simp [intOf]; omega
    · obtain rfl : k = n := by omega
      obtain ⟨i0, hi, hz0, hz1, hz2⟩ := info_parts cell_info
      go_wp2_with (at_builtin; refine wpList_app _ rfl (.tmp 13) (.tmp 15) _ rfl base _ i0 _ 3 32 Tryd.underlying22 hi hz0 hz1 hz2 rfl (Nat.zero_lt_succ 2) (.slice A k c) k ys rfl ?a2 (some ⟨wr.heap.size, 0, none⟩) 1 1 (encs [behC]) rfl ?a3 ?a4 ?a5 ?a6 ?a7)
      case a2 => exact hrow.out.alloc _
      case a3 => exact Src.of_one (new_cell wr behC _)
      case a4 => simp only [maxLen]; omega
      case a5 => omega
      case a6 => rw [World.size_alloc]; omega
      case a7 =>
        intro v1 w2 hown2 hg2 hat2
        obtain ⟨A2, c2, rfl⟩ := row_slice hown2
        obtain ⟨g2, rfl, hgb, hgl⟩ := row_form hown2 (by omega)
        obtain ⟨u1, d1⟩ := row_some hown2 (j := k * 3 + 1) (by omega)
        have f1 := hown2.frozenAt (k * 3 + 1)
        have hG2 := Lib.hid (grown_trans (grown_alloc hG.out _) hg2)
        have hi0 : (0 : Int) ≤ (k : Int) := Int.natCast_nonneg _
        have hwhere : (Value.slice A k c).ownBlock = some g2 ∨ w.heap.size ≤ g2 := by
          rcases hat2 with e | e
          · exact .inl e.symm
          · have : g2 = wr.heap.size + 1 := by simpa [Value.ownBlock] using e
            exact .inr (by omega)
        have HW := Lib.hid hwhere
        clear hat2 hg2 hwhere
        go_wp2
        go_end0
        exact ⟨rfl, grown_set hG2.out HW.out _⟩
end Go.Proofs.YtfeaolnklooanaaDoor.Tm
/- Lents and KeptAll: lent copies of several terms. -/
namespace Go.Proofs.YtfeaolnklooanaaDoor.Tm
open Go.RowKit
set_option linter.unusedVariables false
set_option linter.unusedSimpArgs false

theorem sl_info : (Tryd.prog.info? 22).map (fun i => (i.zero, i.size, i.bytes)) = some (some (.slice none 0 0), 1, 24) := by kernel_rfl
/-- Two rows whose element types differ share no block. -/
theorem rows_ne {w : World} {b b' : Nat} {e e' : TypeId} {s s' n n' : Nat} {v v' : Value} {xs xs' : List Value} (h : w.ownsRow b e s v n xs) (k : w.ownsRow b' e' s' v' n' xs') (hne : e ≠ e') : v.ownBlock = none ∨ v.ownBlock ≠ v'.ownBlock := by
  rcases h.2 with ⟨rfl, _⟩ | ⟨g, cap, cur, rfl, _, hh, _⟩
  · exact .inl rfl
  · rcases k.2 with ⟨rfl, _⟩ | ⟨g', cap', cur', rfl, _, kk, _⟩
    · exact .inr (by simp [Value.ownBlock])
    · refine .inr fun e1 => ?_
      have : g = g' := by simpa [Value.ownBlock] using e1
      subst this
      rw [hh] at kk
      injection kk with kk
      injection kk with _ kk
      exact hne kk
/-- Slices that a row holds, each a term of the call's own with a property. -/
def Each (P : Option Addr → Nat → List CellD → Prop) (vs : List Value) (ls : List (List CellD)) : Prop :=
  vs.length = ls.length ∧ ∀ j (h : j < ls.length), ∃ A c, vs[j]? = some (.slice A ls[j].length c) ∧ P A c ls[j]
theorem Each.mono {P Q : Option Addr → Nat → List CellD → Prop} {vs : List Value} {ls : List (List CellD)} (h : Each P vs ls) (k : ∀ A c l, P A c l → Q A c l) : Each Q vs ls :=
  ⟨h.1, fun j hj => by
    obtain ⟨A, c, e, p⟩ := h.2 j hj
    exact ⟨A, c, e, k _ _ _ p⟩⟩
theorem Each.nil {P : Option Addr → Nat → List CellD → Prop} : Each P [] [] := ⟨rfl, fun j h => absurd h (Nat.not_lt_zero j)⟩
theorem Each.snoc {P : Option Addr → Nat → List CellD → Prop} {vs : List Value} {ls : List (List CellD)} {A : Option Addr} {c : Nat} {l : List CellD} (h : Each P vs ls) (p : P A c l) : Each P (vs ++ [.slice A l.length c]) (ls ++ [l]) := by
  refine ⟨by simp [h.1], fun j hj => ?_⟩
  by_cases e : j < ls.length
  · obtain ⟨A', c', e1, p1⟩ := h.2 j e
    refine ⟨A', c', ?_, ?_⟩
    · rw [List.getElem_append_left e, List.getElem?_append_left (by rw [h.1]; exact e)]; exact e1
    · rw [List.getElem_append_left e]; exact p1
  · have : j = ls.length := by simp at hj; omega
    subst this
    refine ⟨A, c, ?_, ?_⟩
    · rw [List.getElem?_append_right (by rw [h.1]; exact Nat.le_refl _)]; simp [h.1]
    · simpa using p
theorem Each.one {P : Option Addr → Nat → List CellD → Prop} {vs : List Value} {ls : List (List CellD)} (h : Each P vs ls) : ∀ u ∈ vs, u.oneCell' = true := by
  intro u hu
  obtain ⟨j, hj, rfl⟩ := List.mem_iff_getElem.1 hu
  obtain ⟨A, c, e, _⟩ := h.2 j (by rw [← h.1]; exact hj)
  rw [List.getElem?_eq_getElem hj] at e
  injection e with e
  rw [e]; rfl
theorem slice_one (A : Option Addr) (n c : Nat) : ∀ u ∈ [Value.slice A n c], u.oneCell' = true := by simp [Value.oneCell']
theorem row_cell1 {w : World} {base n c g : Nat} {e : TypeId} {xs : List Value} (h : w.ownsRow base e 1 (.slice (some ⟨g, 0, none⟩) n c) n xs) {j : Nat} {u : Value} (hu : xs[j]? = some u) : w.cell? ⟨g, j, none⟩ = some u := by
  have hj : j < xs.length := (List.getElem?_eq_some_iff.1 hu).1
  rw [h.cellAt j (by rw [← h.1]; exact hj)]; exact hu
/-- A row whose slices read as terms reads as those. -/
theorem Reads2.of_row {w : World} {base n c : Nat} {A : Option Addr} {e : TypeId} {vs rest : List Value} {ls : List (List CellD)} {P : Option Addr → Nat → List CellD → Prop} (h : w.ownsRow base e 1 (.slice A n c) n (vs ++ rest)) (hE : Each P vs ls)
    (hP : ∀ A c l, P A c l → l.length ≤ c ∧ Reads w A l) : Reads2 w A ls := fun j hj => by
  obtain ⟨Aj, cj, e1, p⟩ := hE.2 j hj
  have hv : j < vs.length := by rw [hE.1]; exact hj
  have hn : 0 < n := by have := h.1; simp at this; omega
  obtain ⟨g, rfl, _, _⟩ := row_form h hn
  refine ⟨g, 0, rfl, Aj, cj, ?_, (hP _ _ _ p).1, (hP _ _ _ p).2⟩
  rw [Nat.zero_add]
  exact row_cell1 h (by rw [List.getElem?_append_left hv]; exact e1)
/-- What append takes one slice from. -/
theorem Src.slice1 {w : World} {b : Nat} {v : Value} (h : w.cell? ⟨b, 0, none⟩ = some v) (h1 : v.oneCell' = true) : Src w 1 (some ⟨b, 0, none⟩) 1 [v] :=
  { len := rfl
    nil := fun e => by cases e
    at_ := fun ad e j u hj => by
      cases e
      have hz : j = 0 := by
        have := (List.getElem?_eq_some_iff.1 hj).1
        simpa using this
      subst hz
      have e2 : ((⟨b, 0, none⟩ : Addr).add 0) = ⟨b, 0, none⟩ := by unfold Addr.add; simp
      rw [e2]
      simp at hj
      rw [← hj]; exact h
    one := by simpa using h1 }
/-- Lent copies. -/
def LentsAt (w : World) (base : Nat) (A : Option Addr) (cap : Nat) (ls : List (List CellD)) : Prop :=
  ∃ (vs : List Value) (Am : Option Addr) (cm : Nat), w.ownsRow base 22 1 (.slice A (ls.length + 1) cap) (ls.length + 1) (vs ++ [.slice Am 1 cm]) ∧ Each (fun A c l => LentAt w base A c l) vs ls ∧ Reads w Am [markC]
theorem LentsAt.below {w W : World} {base cap : Nat} {A : Option Addr} {ls : List (List CellD)} (h : LentsAt w base A cap ls) (hB : Below w.heap.size w W) : LentsAt W base A cap ls := by
  obtain ⟨vs, Am, cm, h1, h2, h3⟩ := h
  exact ⟨vs, Am, cm, row_below h1 hB, h2.mono fun _ _ _ p => p.below hB, h3.below hB⟩
theorem LentAt.lenCap {w : World} {base cap : Nat} {A : Option Addr} {l : List CellD} (h : LentAt w base A cap l) : l.length ≤ cap := by have := row_cap h.row; omega
theorem LentsAt.reads {w : World} {base cap : Nat} {A : Option Addr} {ls : List (List CellD)} (h : LentsAt w base A cap ls) : Reads2 w A ls := by
  obtain ⟨vs, Am, cm, h1, h2, h3⟩ := h
  exact Reads2.of_row h1 h2 fun _ _ _ p => ⟨p.lenCap, p.reads⟩
theorem LentsAt.cap_ {w : World} {base cap : Nat} {A : Option Addr} {ls : List (List CellD)} (h : LentsAt w base A cap ls) : ls.length + 1 ≤ cap := by
  obtain ⟨vs, Am, cm, h1, h2, h3⟩ := h
  exact row_cap h1
set_option maxHeartbeats 2000000 in
theorem lents_any (ls : List (List CellD)) (A : Option Addr) (cap : Nat) (w : World) (hr : Reads2 w A ls) (hf : Fine2 ls) (hl : (ls.length + 1) * 24 ≤ 140737488355328) :
    Calls Tryd.prog 27 #[.slice A ls.length cap] w fun e w' => ∃ A' cap', e = .returned (.slice A' ls.length cap') ∧ LentsAt w' w.heap.size A' cap' ls ∧ Below w.heap.size w w' := by
  obtain ⟨i0, hi, hz0, hz1, hz2⟩ := info_parts sl_info
  have HR := Lib.hid hr
  have HF := Lib.hid hf
  clear hr hf
  go_enter Tryd.func27, Tryd.ntmps27
  go_wp2_with fail
  go_loopw [3, 4] (fun v i wr => ∃ (j : Nat) (A' : Option Addr) (c' : Nat) (vs : List Value), j ≤ ls.length ∧ i = .int .i64 j ∧ v = .slice A' j c' ∧ Hid (wr.ownsRow w.heap.size 22 1 (.slice A' j c') j vs) ∧ Hid (Each (fun A c l => LentAt wr w.heap.size A c l) vs (ls.take j)) ∧ Below w.heap.size w wr) (fun v i wr => ls.length - (intOf i).toNat)
  case atStart => exact ⟨0, none, 0, [], Nat.zero_le _, rfl, rfl, row_nil _ _ _ _, by rw [List.take_zero]; exact Each.nil, Below.refl _ _⟩
  case round =>
    obtain ⟨j, A', c', vs, hj, rfl, rfl, hrow, hE, hB⟩ := hrel
    by_cases hlt : j < ls.length
    · obtain ⟨b, o, hA, Aj, cj, q0, q1, q2⟩ := HR.out j hlt
      subst hA
      have q0' := cell_below hB q0
      have hfj := (HF.out j hlt).len
      have hi1 : (j : Int) < (ls.length : Int) := by omega
      have hi0 : (0 : Int) ≤ (j : Int) := Int.natCast_nonneg _
      clear q0
      go_wp2_with fail
      refine (lent_any ls[j] Aj cj _ (q2.below hB) (by omega)).mono ?_
      rintro e w1 ⟨A1, c1, rfl, hL, hb1⟩
      have hB1 := below_then hB hb1
      have HL := Lib.hid (show LentAt w1 w.heap.size A1 c1 ls[j] from ⟨row_mono hL.row hB.size⟩)
      have hrow1 := Lib.hid (row_below hrow.out hb1)
      have hE1 := Lib.hid (hE.out.mono fun _ _ _ p => p.below hb1)
      have hc0 : (w1.alloc (.cells #[.slice A1 ls[j].length c1] 22)).cell? ⟨w1.heap.size, 0, none⟩ = some (.slice A1 ls[j].length c1) := by go_cell
      clear hL hrow hE
      go_wp2_with (at_builtin; refine wpList_app _ rfl (.tmp 11) (.tmp 17) _ rfl w.heap.size _ i0 _ 1 24 Tryd.underlying29 hi hz0 hz1 hz2 rfl ?a1 (.slice A' j c') j vs rfl ?a2 (some ⟨w1.heap.size, 0, none⟩) 1 1 [.slice A1 ls[j].length c1] rfl ?a3 ?a4 ?a5 ?a6 ?a7)
      case a1 => omega
      case a2 => exact hrow1.out.alloc _
      case a3 => exact Src.slice1 hc0 rfl
      case a4 => simp only [maxLen]; omega
      case a5 => omega
      case a6 => rw [World.size_alloc]; have := hB1.size; omega
      case a7 =>
        intro v2 w2 hown2 hg2 hat2
        obtain ⟨A2, c2, rfl⟩ := row_slice hown2
        have hB2 : Below w.heap.size w w2 := (below_alloc' hB1 _).grown hg2 (below_alloc' hB1 _).size (fun q hq => row_base hrow1.out q hq)
        have hne : ∀ {A c l}, LentAt w1 w.heap.size A c l → LentAt w2 w.heap.size A c l := fun p => by
          have h1 := p.row.alloc (.cells #[.slice A1 ls[j].length c1] 22)
          have h2 := hrow1.out.alloc (.cells #[.slice A1 ls[j].length c1] 22)
          exact ⟨h1.kept hg2 (rows_ne h1 h2 (by decide))⟩
        have hE2 : Each (fun A c l => LentAt w2 w.heap.size A c l) (vs ++ [.slice A1 ls[j].length c1]) (ls.take (j + 1)) := by
          rw [List.take_succ_eq_append_getElem hlt]
          exact (hE1.out.mono fun _ _ _ p => hne p).snoc (hne HL.out)
        have HE2 := Lib.hid hE2
        have HO2 := Lib.hid hown2
        clear hE2 hown2 hat2 hc0
        go_wp2
        go_roundw
        case rel => exact ⟨j + 1, A2, c2, _, by omega, by go_num, rfl, HO2, HE2, hB2⟩
        case measure => simp [intOf]; omega
    · obtain rfl : j = ls.length := by omega
      have hm0 : Reads (wr.alloc (.cells #[.int .i64 0, .int .i64 0, .string markT] 47)) (some ⟨wr.heap.size, 0, none⟩) [markC] := reads_new wr rfl
      have hm1 := hm0.below (below_one _ (.cells #[.slice (some ⟨wr.heap.size, 0, none⟩) 1 1] 22))
      have HM := Lib.hid hm1
      have hcc : ((wr.alloc (.cells #[.int .i64 0, .int .i64 0, .string markT] 47)).alloc (.cells #[.slice (some ⟨wr.heap.size, 0, none⟩) 1 1] 22)).cell? ⟨wr.heap.size + 1, 0, none⟩ = some (.slice (some ⟨wr.heap.size, 0, none⟩) 1 1) := by go_cell
      have HCC := Lib.hid hcc
      have hBa := below_alloc' (below_alloc' hB (.cells #[.int .i64 0, .int .i64 0, .string markT] 47)) (.cells #[.slice (some ⟨wr.heap.size, 0, none⟩) 1 1] 22)
      have HBA := Lib.hid hBa
      have hrA := Lib.hid ((hrow.out.alloc (.cells #[.int .i64 0, .int .i64 0, .string markT] 47)).alloc (.cells #[.slice (some ⟨wr.heap.size, 0, none⟩) 1 1] 22))
      have hEA := Lib.hid (hE.out.mono fun _ _ _ p => (p.below (below_one _ (.cells #[.int .i64 0, .int .i64 0, .string markT] 47))).below (below_one _ (.cells #[.slice (some ⟨wr.heap.size, 0, none⟩) 1 1] 22)))
      clear hm0 hm1 hcc hBa
      go_wp2_with (at_builtin; refine wpList_app _ rfl (.tmp 19) (.tmp 22) _ rfl w.heap.size _ i0 _ 1 24 Tryd.underlying29 hi hz0 hz1 hz2 rfl ?b1 (.slice A' ls.length c') ls.length vs rfl ?b2 (some ⟨wr.heap.size + 1, 0, none⟩) 1 1 [.slice (some ⟨wr.heap.size, 0, none⟩) 1 1] rfl ?b3 ?b4 ?b5 ?b6 ?b7)
      case b1 => omega
      case b2 => exact hrA.out
      case b3 => exact Src.slice1 HCC.out rfl
      case b4 => simp only [maxLen]; omega
      case b5 => omega
      case b6 => exact HBA.out.size
      case b7 =>
        intro v2 w2 hown2 hg2 hat2
        obtain ⟨A2, c2, rfl⟩ := row_slice hown2
        have hcap := row_cap hown2
        have hB2 : Below w.heap.size w w2 := HBA.out.grown hg2 HBA.out.size (fun q hq => row_base hrA.out q hq)
        have hL : LentsAt w2 w.heap.size A2 c2 ls := by
          refine ⟨vs, _, _, hown2, ?_, ?_⟩
          · rw [List.take_length] at hEA
            exact hEA.out.mono fun _ _ _ p => ⟨p.row.kept hg2 (rows_ne p.row hrA.out (by decide))⟩
          · refine HM.out.kept hg2 (fun b o e => ?_)
            have e1 : b = wr.heap.size := by have := e.symm; simp at this; exact this.1
            intro e2
            have e3 := row_lt hrow.out b (by rw [← e2])
            omega
        have HL := Lib.hid hL
        clear hown2 hg2 hat2 hL
        go_wp2
        go_ret
        exact ⟨A2, c2, rfl, HL.out, hB2⟩
set_option maxHeartbeats 2000000 in
theorem keptAll_any (ls : List (List CellD)) (A B : Option Addr) (base cap cap2 : Nat) (w : World) (h : LentsAt w base A cap ls) (hr : Reads2 w B ls) (hf : Fine2 ls) (hl : (ls.length + 1) * 24 ≤ 140737488355328) :
    Calls Tryd.prog 33 #[.slice A ls.length cap, .slice B ls.length cap2] w fun e w' => e = .returned (.bool true) ∧ Below w.heap.size w w' := by
  have hcap := h.cap_
  have HL := Lib.hid h
  have HR := Lib.hid hr
  have HF := Lib.hid hf
  clear h hr hf
  go_enter Tryd.func33, Tryd.ntmps33
  go_wp2_with fail
  go_loopw [5] (fun i wr => ∃ j : Nat, j ≤ ls.length ∧ i = .int .i64 j ∧ Below w.heap.size w wr) (fun i wr => ls.length - (intOf i).toNat)
  case atStart => exact ⟨0, Nat.zero_le _, rfl, Below.refl _ _⟩
  case round =>
    obtain ⟨j, hj, rfl, hB⟩ := hrel
    by_cases hlt : j < ls.length
    · obtain ⟨vs, Am, cm, h1, h2, h3⟩ := HL.out.below hB
      obtain ⟨A1, c1, e1, hLj⟩ := h2.2 j hlt
      obtain ⟨g, rfl, hgb, hgl⟩ := row_form h1 (by omega)
      have p0 := row_cell1 h1 (j := j) (u := .slice A1 ls[j].length c1) (by rw [List.getElem?_append_left (by rw [h2.1]; exact hlt)]; exact e1)
      obtain ⟨b, o, hA, Aj, cj, q0, q1, q2⟩ := HR.out j hlt
      subst hA
      have q0' := cell_below hB q0
      have HLj := Lib.hid (show LentAt wr.drew base A1 c1 ls[j] from ⟨hLj.row.drew⟩)
      have Q2 := Lib.hid (q2.below hB.drew)
      have hfj := (HF.out j hlt).len
      have hi1 : (j : Int) < (ls.length : Int) := by omega
      have hi0 : (0 : Int) ≤ (j : Int) := Int.natCast_nonneg _
      clear q0 q2 h1 h2 h3 e1 hLj
      go_wp2_with fail
      go_region_held3 (fun w' => w'.cell? ⟨g, j, none⟩ = some (.slice A1 ls[j].length c1) ∧ w'.cell? ⟨b, o + j, none⟩ = some (.slice Aj ls[j].length cj))
        (first
          | exact ⟨cell_below hbc p0, cell_below hbc q0'⟩
          | go_keep)
        ((go_at_call 19; refine (kept_any ls[j] A1 Aj base c1 cj _ HLj.out Q2.out (by omega)).mono ?_; rintro e wc ⟨rfl, hbc⟩))
      have hB2 := below_then hB.drew hbc
      go_wp2
      go_roundw
      case rel => exact ⟨j + 1, by omega, by go_num, hB2⟩
      case measure => simp [intOf]; omega
    · obtain rfl : j = ls.length := by omega
      obtain ⟨vs, Am, cm, h1, h2, h3⟩ := HL.out.below hB
      obtain ⟨g, rfl, hgb, hgl⟩ := row_form h1 (by omega)
      have p0 := row_cell1 h1 (j := ls.length) (u := .slice Am 1 cm) (by rw [List.getElem?_append_right (by rw [h2.1]; exact Nat.le_refl _)]; simp [h2.1])
      obtain ⟨bm, om, rfl, m0, m1, m2⟩ := h3 0 (by simp)
      have hm : wr.cell? ⟨bm, om + 2, none⟩ = some (.string ⟨#[98, 101, 104, 105, 110, 100, 32, 119, 104, 97, 116, 32, 119, 97, 115, 32, 104, 97, 110, 100, 101, 100, 32, 105, 110]⟩) := by simpa [markC, markT] using m2
      have hi0 : (0 : Int) ≤ (ls.length : Int) := Int.natCast_nonneg _
      have hi1 : (ls.length : Int) + 1 ≤ (cap : Int) := by omega
      clear h1 h2 h3 m0 m1 m2
      go_wp2
      go_ret
      exact ⟨rfl, hB⟩
end Go.Proofs.YtfeaolnklooanaaDoor.Tm
