/- The law OrderMakes: whatever the number, the text and the terms, it returns true. -/
import Derived.Test.YtefpolgflimlgaaDoorKnown5
import Derived.Test.YtefpolgflimlgaaDoorRTup
import Derived.Test.YtefpolgflimlgaaDoorLents
import Derived.Test.YtefpolgflimlgaaDoorSpoil
import Derived.Deep.RegionHeld3
import Derived.IntWalk
namespace Go.Proofs.YtefpolgflimlgaaDoor.Tm
open Go.RowKit
set_option linter.unusedVariables false
set_option linter.unusedSimpArgs false

theorem same_self (l : List CellD) : decide (l = l) = true := by simp
/-- A term of the call's own survives what is done to an older one. -/
theorem OwnT.spared {w w' V : World} {base c : Nat} {A : Option Addr} {r : List CellD} {row : Option Nat} (h : OwnT w w' base A c r) (hg : w'.grownBy V row) (hr : ∀ k, row = some k → k < base) : V.ownsRow base 32 3 (.slice A r.length c) r.length (encs r) := by
  refine h.row.kept hg ?_
  cases e : (Value.slice A r.length c).ownBlock with
  | none => exact .inl rfl
  | some g =>
    refine .inr fun e2 => ?_
    have h1 := row_base h.row g e
    have h2 := hr g e2.symm
    omega
theorem row_spared {w V : World} {base n : Nat} {e : TypeId} {sz : Nat} {v : Value} {xs : List Value} {row : Option Nat} (h : w.ownsRow base e sz v n xs) (hg : w.grownBy V row) (hr : ∀ k, row = some k → k < base) : V.ownsRow base e sz v n xs := by
  refine h.kept hg ?_
  cases e : v.ownBlock with
  | none => exact .inl rfl
  | some g =>
    refine .inr fun e2 => ?_
    have h1 := row_base h g e
    have h2 := hr g e2.symm
    omega
theorem joinE_len (first each last : List CellD) (ls : List (List CellD)) : (joinE first each last ls).1.length ≤ 1024 := by
  unfold joinE
  split
  · simp
  · have := joinL_length each ls
    simp [this]; omega
theorem tupleE_len (ls : List (List CellD)) : (tupleE ls).1.length ≤ 1024 := by
  unfold tupleE; split
  · simp
  · split
    · simp
    · exact joinE_len _ _ _ _
theorem listE_len (ls : List (List CellD)) : (listE ls).1.length ≤ 1024 := by
  unfold listE; split
  · simp
  · exact joinE_len _ _ _ _
theorem consE_len (l m : List CellD) : (consE l m).1.length ≤ 1024 := by
  unfold consE; split
  · simp
  · exact joinE_len _ _ _ _
theorem bne_self' (a : Int) : (a != a) = false := by simp
set_option maxRecDepth 100000 in
set_option maxHeartbeats 4000000 in
theorem makes_any (n : Int) (s : ByteArray) (ls : List (List CellD)) (A : Option Addr) (c : Nat) (w : World) (hr : Reads2 w A ls) (hf : Fine2 ls) (hc : ls.length ≤ c) (hl : (ls.length + 1) * 24 ≤ 140737488355328) (hT : Tabs w) :
    Calls Tryd.prog 4 #[.int .i64 n, .string s, .slice A ls.length c] w fun e w' => e = .returned (.bool true) ∧ Below w.heap.size w w' := by
  have HR := Lib.hid hr
  have HF := Lib.hid hf
  have HT := Lib.hid hT
  have hn : ls.length ≤ 1000000000000000 := by omega
  clear hr hf hT
  go_enter Tryd.func4, Tryd.ntmps4
  go_wp2_with fail
  refine (int_any n _).mono ?_
  rintro e w1 ⟨A1, c1, rfl, h1⟩
  have H1 := Lib.hid h1
  have hB1 := h1.bel
  clear h1
  go_wp2_with fail
  refine (rsame_any A1 _ c1 1 [intC n] [intC n] _ (H1.out.reads.below (below_one _ _)) (reads_new w1 rfl) (by simp) (by simp)).mono ?_
  rintro e w2 ⟨rfl, hb2⟩
  rw [same_self]
  have hB2 := below_then (below_then hB1 (below_one _ _)) hb2
  clear hb2 hB1 H1
  go_wp2_with fail
  refine (atom_any s _).mono ?_
  rintro e w3 ⟨A3, c3, rfl, h3⟩
  have H3 := Lib.hid h3
  have hB3 := below_then hB2 h3.bel
  clear h3 hB2
  go_wp2_with fail
  refine (rsame_any A3 _ c3 1 [atomC s] [atomC s] _ (H3.out.reads.below (below_one _ _)) (reads_new w3 rfl) (by simp) (by simp)).mono ?_
  rintro e w4 ⟨rfl, hb4⟩
  rw [same_self]
  have hB4 := below_then (below_then hB3 (below_one _ _)) hb4
  clear hb4 hB3 H3
  go_wp2_with fail
  refine (bin_any s _).mono ?_
  rintro e w5 ⟨A5, c5, rfl, h5⟩
  have H5 := Lib.hid h5
  have hB5 := below_then hB4 h5.bel
  clear h5 hB4
  go_wp2_with fail
  refine (rsame_any A5 _ c5 1 [binC s] [binC s] _ (H5.out.reads.below (below_one _ _)) (reads_new w5 rfl) (by simp) (by simp)).mono ?_
  rintro e w6 ⟨rfl, hb6⟩
  rw [same_self]
  have hB6 := below_then (below_then hB5 (below_one _ _)) hb6
  clear hb6 hB5 H5
  go_wp2_with fail
  refine (lents_any ls A c _ (HR.out.below hB6) HF.out hl).mono ?_
  rintro e wL ⟨AL, cL, rfl, hL, hbL⟩
  have HL := Lib.hid hL
  have hBL := below_then hB6 hbL
  have HTL := Lib.hid (Utf8Tabs_below HT.out hBL)
  have HRL := Lib.hid (HR.out.below hBL)
  clear hL hbL hB6
  go_wp2_with fail
  refine (tuple_any ls AL cL _ HL.out.reads HF.out hn HTL.out).mono ?_
  rintro e wT ⟨AT, cT, rfl, hT1⟩
  have H7 := Lib.hid hT1
  have hbT := hT1.bel
  clear hT1
  go_wp2_with fail
  refine (rtuple_any ls A c _ (HRL.out.below hbT) HF.out hn).mono ?_
  rintro e wU ⟨AU, cU, rfl, hU1⟩
  have H8 := Lib.hid hU1
  have hbU := below_then hbT hU1.bel
  have hbTU := Lib.hid hU1.bel
  clear hU1
  go_wp2_with fail
  refine (list_any ls AL cL _ (HL.out.below hbU).reads HF.out hn (Utf8Tabs_below HTL.out hbU)).mono ?_
  rintro e wX ⟨AX, cX, rfl, hX1⟩
  have H9 := Lib.hid hX1
  have hbX := below_then hbU hX1.bel
  have hbUX := Lib.hid hX1.bel
  clear hX1
  go_wp2_with fail
  refine (rlist_any ls A c _ (HRL.out.below hbX) HF.out hn).mono ?_
  rintro e wY ⟨AY, cY, rfl, hY1⟩
  have H10 := Lib.hid hY1
  have hbY := below_then hbX hY1.bel
  have hbXY := Lib.hid hY1.bel
  clear hY1 hbT hbU hbX
  have hz1 := bne_self' (tupleE ls).2
  have hz2 := bne_self' (listE ls).2
  have lt1 := tupleE_len ls
  have lt2 := listE_len ls
  go_wp2_with fail
  refine (rsame_any AT AU cT cU (tupleE ls).1 (tupleE ls).1 _ ((H7.out.reads.below hbTU.out).below (below_then hbUX.out hbXY.out)) (H8.out.reads.below (below_then hbUX.out hbXY.out)) (by omega) (by omega)).mono ?_
  rintro e wS ⟨rfl, hbS⟩
  rw [same_self]
  have HbS := Lib.hid hbS
  have hbS' := below_then hbY hbS
  clear hbS hbY
  go_wp2_with fail
  refine (rsame_any AX AY cX cY (listE ls).1 (listE ls).1 _ (H9.out.reads.below (below_then hbXY.out HbS.out)) (H10.out.reads.below HbS.out) (by omega) (by omega)).mono ?_
  rintro e wQ ⟨rfl, hbQ⟩
  rw [same_self]
  have HbQ := Lib.hid hbQ
  have hbQ' := below_then hbS' hbQ
  clear hbQ hbS'
  have HtQ := Lib.hid (below_then hbTU.out (below_then hbUX.out (below_then hbXY.out (below_then HbS.out HbQ.out))))
  have HxQ := Lib.hid (below_then hbXY.out (below_then HbS.out HbQ.out))
  have HTrow := Lib.hid (row_below H7.out.row HtQ.out)
  have HXrow := Lib.hid (row_below H9.out.row HxQ.out)
  have htq := HtQ.out.size
  have htu := hbTU.out.size
  have hwt := H7.out.bel.size
  go_wp2_with fail
  refine (spoil_any AT _ cT wL.heap.size _ wQ HTrow.out (by omega) (by omega)).mono ?_
  rintro e wA ⟨rfl, gA⟩
  have hbA : Below wL.heap.size wL wA := hbQ'.grown gA hbQ'.size (fun k hk => row_base HTrow.out k hk)
  have HXrow2 := Lib.hid (row_spared HXrow.out gA (fun k hk => by have := row_lt H7.out.row k hk; omega))
  clear gA
  have hxb := hbA.size
  go_wp2_with fail
  refine (spoil_any AX _ cX wL.heap.size _ wA (row_mono HXrow2.out (by omega)) (by omega) (by omega)).mono ?_
  rintro e wB ⟨rfl, gB⟩
  have hbB : Below wL.heap.size wL wB := hbA.grown gB hbA.size (fun k hk => by have := row_base HXrow2.out k hk; omega)
  clear gB hbA hbQ' htq htu hwt hxb HXrow2 HXrow HTrow HtQ HxQ HbS HbQ hbXY hbUX hbTU H10 H9 H8 H7 hz1 hz2 lt1 lt2
  go_wp2_with fail
  go_loopw [16] (fun i wr => ∃ j : Nat, j ≤ ls.length ∧ i = .int .i64 j ∧ Below wL.heap.size wL wr) (fun i wr => ls.length - (intOf i).toNat)
  case atStart => exact ⟨0, Nat.zero_le _, rfl, hbB⟩
  case round =>
    obtain ⟨j, hj, rfl, hB⟩ := hrel
    by_cases hlt : j + 1 < ls.length
    · obtain ⟨vs, Am, cm, p1, p2, p3⟩ := HL.out.below hB
      obtain ⟨D1, d1, e1, k1⟩ := p2.2 j (by omega)
      obtain ⟨D2, d2, e2, k2⟩ := p2.2 (j + 1) hlt
      obtain ⟨g, rfl, hgb, hgl⟩ := row_form p1 (by omega)
      have m1 := row_cell1 p1 (j := j) (u := .slice D1 ls[j].length d1) (by rw [List.getElem?_append_left (by rw [p2.1]; omega)]; exact e1)
      have m2 := row_cell1 p1 (j := j + 1) (u := .slice D2 ls[j + 1].length d2) (by rw [List.getElem?_append_left (by rw [p2.1]; exact hlt)]; exact e2)
      obtain ⟨b, o, hA, Aj, cj, q0, q1, q2⟩ := HRL.out j (by omega)
      obtain ⟨b', o', hA', Aj', cj', r0, r1, r2⟩ := HRL.out (j + 1) hlt
      subst hA
      obtain ⟨rfl, rfl⟩ : b = b' ∧ o = o' := by simpa using hA'
      have q0' := cell_below hB q0
      have r0' : wr.cell? ⟨b, o + (j + 1), none⟩ = some (.slice Aj' ls[j + 1].length cj') := cell_below hB r0
      have K1 := Lib.hid k1
      have K2 := Lib.hid k2
      have Q2 := Lib.hid (q2.below hB)
      have R2 := Lib.hid (r2.below hB)
      have HTr := Lib.hid (Utf8Tabs_below HTL.out hB.drew)
      have fj := Lib.hid (HF.out j (by omega))
      have fj' := Lib.hid (HF.out (j + 1) hlt)
      have hi0 : (0 : Int) ≤ (j : Int) := Int.natCast_nonneg _
      have hi1 : (j : Int) + 1 < (ls.length : Int) := by omega
      have hi2 : (j : Int) < (ls.length : Int) := by omega
      have hi3 : (0 : Int) ≤ (j : Int) + 1 := by omega
      have hw : IntKind.i64.wrap ((j : Int) + 1) = (j : Int) + 1 := IntWalk.i64_in _ (by omega)
      have hwn : ((j : Int) + 1).toNat = j + 1 := by omega
      clear q0 q2 r0 r2 p1 p2 p3 e1 e2 k1 k2 hA'
      go_wp2_with fail
      go_region_held3 (fun w' => w'.cell? ⟨g, j, none⟩ = some (.slice D1 ls[j].length d1) ∧ w'.cell? ⟨g, j + 1, none⟩ = some (.slice D2 ls[j + 1].length d2))
        (first
          | exact ⟨cell_below hbc m1, cell_below hbc m2⟩
          | go_keep)
        ((go_at_call 36; refine (cons_any ls[j] ls[j + 1] D1 D2 d1 d2 wr.drew K1.out.reads K2.out.reads fj.out fj'.out K1.out.lenCap K2.out.lenCap HTr.out).mono ?_; rintro e wc ⟨At, ct, rfl, ht⟩; have hbc := ht.bel))
      have hbD := Lib.hid (below_then hB.drew hbc)
      have q1' := cell_below hbc q0'
      have r1' := cell_below hbc r0'
      have CT := Lib.hid ht
      have Q3 := Lib.hid (Q2.out.below (w := wr.drew) hbc)
      have R3 := Lib.hid (R2.out.below (w := wr.drew) hbc)
      clear ht hbc m1 m2 q0' r0'
      go_wp2_with fail
      go_region_held3 (fun w' => w'.cell? ⟨b, o + j, none⟩ = some (.slice Aj ls[j].length cj) ∧ w'.cell? ⟨b, o + (j + 1), none⟩ = some (.slice Aj' ls[j + 1].length cj'))
        (first
          | exact ⟨cell_below hbd q1', cell_below hbd r1'⟩
          | go_keep)
        ((go_at_call 37; refine (rcons_any ls[j] ls[j + 1] Aj Aj' cj cj' wc.drew Q3.out R3.out fj.out fj'.out q1 r1).mono ?_; rintro e wd ⟨Ad, cd, rfl, hd⟩; have hbd := hd.bel))
      have CD := Lib.hid hd
      have hbF := Lib.hid (below_then hbD.out.drew hbd)
      have HRT := Lib.hid (CT.out.reads.below (w := wc.drew) hbd)
      have HTR := Lib.hid (row_below (w := wc.drew) CT.out.row.drew hbd)
      have hlen := consE_len ls[j] ls[j + 1]
      have hz := bne_self' (consE ls[j] ls[j + 1]).2
      have hsz := hbF.out.size
      have hszc := hbD.out.size
      have hszd := hbd.size
      clear q1' r1' hd hbd
      go_wp2_with fail
      refine (rsame_any At Ad ct cd (consE ls[j] ls[j + 1]).1 (consE ls[j] ls[j + 1]).1 _ HRT.out CD.out.reads (by omega) (by omega)).mono ?_
      rintro e we ⟨rfl, hbe⟩
      rw [same_self]
      have hbG := Lib.hid (below_then hbF.out hbe)
      have HTR2 := Lib.hid (row_mono (row_below HTR.out hbe) (base' := wL.heap.size) (by have := hB.size; show wL.heap.size ≤ wr.heap.size; exact this))
      have hszg := hbG.out.size
      clear hbe
      go_wp2_with fail
      refine (spoil_any At _ ct wL.heap.size _ we HTR2.out (by omega) (by omega)).mono ?_
      rintro e wf ⟨rfl, gF⟩
      have hbH : Below wL.heap.size wL wf := hbG.out.grown gF hbG.out.size (fun k hk => row_base HTR2.out k hk)
      clear gF
      go_wp2
      go_roundw
      case rel => exact ⟨j + 1, by omega, by go_num, hbH⟩
      case measure => simp [intOf]; omega
    · have hge : (ls.length : Int) ≤ (j : Int) + 1 := by omega
      go_wp2_with fail
      refine (keptAll_any ls AL A w6.heap.size cL c _ (HL.out.below hB) (HRL.out.below hB) HF.out hl).mono ?_
      rintro e wk ⟨rfl, hbk⟩
      have hbK := below_then hB hbk
      have HK := Lib.hid (Utf8Tabs_below HTL.out hbK)
      go_wp2_with fail
      refine (known5_any _ HK.out).mono ?_
      rintro e wz ⟨rfl, hbz⟩
      go_wp2
      go_ret
      exact ⟨rfl, below_then (below_then hBL hbK) hbz⟩
theorem makes_row (n : Int) (s : ByteArray) (A : Option Addr) (c : Nat) (ls : List (List CellD)) (w : World) (hT : Tabs w) (hn : (Lit.int .i64 n).wf = true) (hs : s.size ≤ 9223372036854775807)
    (hc : ls.length ≤ c) (hr : Reads2 w A ls) (hf : Fine2 ls) (hy : ls.length * 24 ≤ 140737488351232) :
    Calls Tryd.prog 4 #[.int .i64 n, .string s, .slice A ls.length c] w fun e w' => e = .returned (.bool true) ∧ Below w.heap.size w w' :=
  makes_any n s ls A c w hr hf hc (by omega) hT
end Go.Proofs.YtefpolgflimlgaaDoor.Tm
