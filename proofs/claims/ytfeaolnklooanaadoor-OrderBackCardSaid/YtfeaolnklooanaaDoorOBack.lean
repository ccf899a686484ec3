/- The law OrderBack: whatever the terms, it returns true. -/
import Derived.Test.YtfeaolnklooanaaDoorOBackP
import Derived.Test.YtfeaolnklooanaaDoorMid
import Derived.LoopN
import Derived.Deep.DeepCutAuto
import Derived.Deep.CutRange
namespace Go.Proofs.YtfeaolnklooanaaDoor.Tm
open Go.RowKit Go.Shelf
set_option linter.unusedVariables false
set_option linter.unusedSimpArgs false
attribute [local go_sem] Oper.semAt_some

/-- The law's two boxes. -/
def BX2 (W : World) (s : Nat) (v : Value) : Prop := Boxed W s 29 v ∧ Boxed W (s + 1) 4 (.bool false)
theorem BX2.below {W V : World} {s : Nat} {v : Value} (h : BX2 W s v) (hB : Below W.heap.size W V) : BX2 V s v := ⟨(hB.block _ h.1.lt).trans h.1, (hB.block _ h.2.lt).trans h.2⟩
theorem store_true {w W : World} (h : Below w.heap.size w W) : Below w.heap.size w (W.setCell ⟨w.heap.size + 1, 0, none⟩ (.bool true)) := h.setCell (p := ⟨w.heap.size + 1, 0, none⟩) (by show w.heap.size ≤ w.heap.size + 1; omega) _
set_option maxRecDepth 100000 in
set_option maxHeartbeats 8000000 in
theorem oback_in (t u : List CellD) (ls : List (List CellD)) (A B C : Option Addr) (c d k : Nat) (w : World) (hr : Reads w A t) (hf : Fine t) (hc : t.length ≤ c) (hr2 : Reads w B u) (hf2 : Fine u) (hd : u.length ≤ d) (hr3 : Reads2 w C ls) (hf3 : Fine2 ls) (hn : ls.length ≤ 1000000000000000) (hT : Tabs w) :
    CallsIn Fence.wide 6 Tryd.prog 4 #[.slice A t.length c, .slice B u.length d, .slice C ls.length k] w fun e V => e = .returned (.bool true) ∧ Below w.heap.size w V := by
  have h16 : 1 ≤ 6 := by omega
  have HR := Lib.hid hr
  have HF := Lib.hid hf
  have HR2 := Lib.hid hr2
  have HF2 := Lib.hid hf2
  have HR3 := Lib.hid hr3
  have HF3 := Lib.hid hf3
  have HT := Lib.hid hT
  have hlt := hf.lim
  have hlu := hf2.lim
  have HBK := Lib.hid (fun (h : (rightE t).1 = 0) c l (ht : t = c :: l) (hk : c.kind = 5) => tuple_back h ht hk)
  have HCB := Lib.hid (cons_back (l := t) (m := u))
  have HLB := Lib.hid (list_back (ls := ls))
  have HOB := Lib.hid (order_back (n := 1) (t := t) (u := u))
  have HFC := Lib.hid (consE_fine hf hf2)
  have HFL := Lib.hid (listE_fine hf3)
  have HFA := Lib.hid (tupleE_fine (ls := [[intC 1], t]) (two_fine (fine_one (by decide)) hf))
  have HFB := Lib.hid (tupleE_fine (ls := [[intC 1], u]) (two_fine (fine_one (by decide)) hf2))
  have HLS := Lib.hid (fun (h : (listE ls).2 = 0) => elemsE_small (t := (listE ls).1))
  have HLN := Lib.hid (elemsE_len (listE ls).1)
  clear hr hf hT hr2 hf2 hr3 hf3
  refine callsIn_of_wp_marks Tryd.func4 rfl trivial ?_ rfl
  refine wpIn_wide.2 ?_
  simp only [Tryd.ntmps4, List.size_toArray, List.length_cons, List.length_nil, Nat.reduceAdd, Nat.reduceSub, Array.replicate_succ, Array.replicate_zero, List.push_toArray, List.append_toArray, List.nil_append, List.cons_append]
  have heq := fun (W : World) fn first captured => run_eql_func_nil3 (P := Tryd.prog) W Tryd.underlying37 fn first captured
  have hB0 := below_alloc' (below_one w (.cells #[.slice C ls.length k] 29)) (.cells #[.bool false] 4)
  have HX0 := Lib.hid (show BX2 ((w.alloc (.cells #[.slice C ls.length k] 29)).alloc (.cells #[.bool false] 4)) w.heap.size (.slice C ls.length k) from ⟨(Boxed.new w 29 (.slice C ls.length k)).alloc _, by have := Boxed.new (w.alloc (.cells #[.slice C ls.length k] 29)) 4 (.bool false); rwa [World.size_alloc] at this⟩)
  have HB0 := Lib.hid hB0
  clear hB0
  go_wp2_with fail
  refine (rright_any t A c _ (HR.out.below HB0.out) HF.out.text hlt).mono ?_
  rintro e w1 ⟨rfl, hb1⟩
  have HB1 := Lib.hid (below_then HB0.out hb1)
  have HX1 := Lib.hid (HX0.out.below hb1)
  clear hb1 HX0 HB0
  by_cases et : (rightE t).1 ≠ 0
  · have F := Lib.hid (part_bad (i := 0) et)
    have te : ((rightE t).1 != 0) = true := by rw [bne_iff_ne]; exact et
    have te2 : ((rightE t).1 == (rightE t).1) = true := by simp
    clear et
    go_wp2_with fail
    refine (opart_any t 0 A c _ (HR.out.below HB1.out) HF.out hc (Utf8Tabs_below HT.out HB1.out)).mono ?_
    rw [F.out]
    rintro e w2 ⟨A2, c2, rfl, h2⟩
    have hb2 := h2.bel
    have HB2 := Lib.hid (below_then HB1.out hb2)
    have HX2 := Lib.hid (HX1.out.below hb2)
    clear hb2 h2
    go_wp2_with fail
    refine (known5_any _ (Utf8Tabs_below HT.out HB2.out)).mono ?_
    rintro e w3 ⟨rfl, hb3⟩
    have HB3 := Lib.hid (below_then HB2.out hb3)
    have HX3 := Lib.hid (HX2.out.below hb3)
    have q3 := HX3.out.2.cell
    have q4 := HX3.out.2.frozen
    have HX4 := Lib.hid (HX3.out.2.set (.bool true))
    clear hb3
    go_wp2
    refine leaves_ret (leaves_end (v := .bool true) ?_ ⟨rfl, store_true HB3.out⟩)
    have q5 := HX4.out.cell
    simp [results, Tryd.results4, go_sem, q5]
  have et : (rightE t).1 = 0 := Decidable.not_not.1 et
  have te : ((rightE t).1 != 0) = false := by rw [bne_eq_false_iff_eq]; exact et
  have ET := Lib.hid et
  obtain ⟨hg0, hne0, hle0⟩ := rightE_ok et
  have hpr : partsR t = partsE t := by unfold partsR; rw [if_neg (by simp [et])]
  have HPR := Lib.hid hpr
  clear et hg0 hpr
  go_wp2_with fail
  refine (met_any t 0 A c _ (HR.out.below HB1.out) HF.out (Utf8Tabs_below HT.out HB1.out)).mono ?_
  rintro e w2 ⟨v2, ys, rfl, h2, hb2⟩
  obtain ⟨hro, hy, ha, hs⟩ := h2
  obtain ⟨A2, c2, rfl⟩ := row_slice hro
  have hm2 : ys.map Yld.l = partsE t := by
    rw [← HPR.out]
    rcases hs with ⟨e, _⟩ | ⟨_, e, k⟩
    · exact e
    · omega
  have HRP := Lib.hid (show Reads2 w2 A2 (partsE t) by rw [← hm2]; exact YRows.reads2 hro hy)
  have HFP := Lib.hid (show Fine2 (partsE t) by rw [← HPR.out]; exact partsR_fine HF.out)
  have hpl : ys.length = (partsE t).length := by rw [← hm2]; simp
  have hp255 := partsE_len t
  obtain ⟨P, hP⟩ : ∃ P, (partsE t).length = P := ⟨_, rfl⟩
  rw [hP] at hpl hp255
  rw [hpl]
  have HTP := Lib.hid (show Calls Tryd.prog 22 #[.slice A2 P c2] w2 (IsTermE w2 (tupleE (partsE t))) by
    rw [← hP]; exact tuple_any (partsE t) A2 c2 w2 HRP.out HFP.out (by omega) (Utf8Tabs_below HT.out (below_then HB1.out hb2)))
  have HB2 := Lib.hid (below_then HB1.out hb2)
  have HX2 := Lib.hid (HX1.out.below hb2)
  clear hro hy ha hs hm2 hb2 HB1 HX1 HRP HFP hP hpl HPR
  -- the first cell
  obtain ⟨x, l, ht⟩ : ∃ x l, t = x :: l := by
    cases t with
    | nil => exact absurd rfl hne0
    | cons x l => exact ⟨x, l, rfl⟩
  obtain ⟨b, o, hA, hcell⟩ := HR.out 0 (by omega)
  obtain ⟨z0, _, _⟩ := hcell.below HB2.out
  have hx0 : t[0]'(by omega) = x := by subst ht; rfl
  rw [hx0] at z0
  rw [Nat.zero_mul, Nat.add_zero] at z0
  have HTB := Lib.hid (fun (hk : x.kind = 5) => HBK.out ET.out x l ht hk)
  subst hA
  have htl : (0 : Int) < (t.length : Int) := by omega
  clear hcell hx0 ht HBK
  generalize x.kind = kd at *
  go_upto_if 60 with (fail)
  go_cut [13, 14] from 60 to 73 (fun s13 s14 wx => Hid (Below w.heap.size w wx) ∧ Hid (BX2 wx w.heap.size (.slice C ls.length k)))
  case first =>
    by_cases hk : kd = 5
    · have hkb : (kd == 5) = true := by simp [hk]
      have HTB2 := Lib.hid (HTB.out hk)
      clear hk HTB
      go_wp2_with fail
      refine HTP.out.mono ?_
      rw [HTB2.out]
      rintro e w3 ⟨A3, c3, rfl, h3⟩
      have hb3 := h3.bel
      have HR3' := Lib.hid h3.reads
      have HB3 := Lib.hid (below_then HB2.out hb3)
      have HX3 := Lib.hid (HX2.out.below hb3)
      clear h3 hb3
      go_wp2_with fail
      refine (rsame_self t _ _ rfl rfl A3 _ c3 c _ HR3'.out (HR.out.below HB3.out) (by omega)).mono ?_
      rintro e w4 ⟨rfl, hb4⟩
      have HB4 := Lib.hid (below_then HB3.out hb4)
      have HX4 := Lib.hid (HX3.out.below hb4)
      clear hb4
      go_wp2
      go_meet
      exact ⟨HB4, HX4⟩
    · have hkb : (kd == 5) = false := beq_eq_false_iff_ne.2 hk
      clear hk
      go_wp2
      go_meet
      exact ⟨HB2, HX2⟩
  case rest =>
    obtain ⟨HB5, HX5⟩ := hcut
    clear HB2 HX2 HTP HTB z0
    -- REST
    have q5 := HX5.out.1.cell
    go_wp2_with fail
    refine (list_any ls C k _ (HR3.out.below HB5.out) HF3.out hn (Utf8Tabs_below HT.out HB5.out)).mono ?_
    obtain ⟨X, hX⟩ : ∃ X, listE ls = X := ⟨_, rfl⟩
    rw [hX] at HLB HFL HLS HLN ⊢
    rintro e w6 ⟨A6, c6, rfl, h6⟩
    have hb6 := h6.bel
    have HR6 := Lib.hid h6.reads
    have HC6 := Lib.hid h6.cap
    have HB6 := Lib.hid (below_then HB5.out hb6)
    have HX6 := Lib.hid (HX5.out.below hb6)
    clear h6 hb6 q5 HB5 HX5 hX
    by_cases hx : X.2 = 0
    · have hxb : (X.2 == 0) = true := by simp [hx]
      have HE := Lib.hid (HLB.out hx)
      have HLS' := Lib.hid (HLS.out hx)
      clear hx HLS HLB
      go_wp2_with fail
      refine (oelems_any X.1 A6 c6 _ HR6.out HFL.out HC6.out (Utf8Tabs_below HT.out HB6.out)).mono ?_
      rw [HE.out] at HLS' HLN ⊢
      rintro e w7 ⟨(⟨hne, _⟩ | ⟨_, b0, hb0, rfl, hEl⟩), hb7⟩
      · exact absurd rfl hne
      have HEl := Lib.hid hEl
      have HB7 := Lib.hid (below_then HB6.out hb7)
      have HX7 := Lib.hid (HX6.out.below hb7)
      clear hEl hb7 HE HR6 HC6 HB6 HX6 hb0
      obtain ⟨bi, hbi⟩ : ∃ b, w7.heap.size = b := ⟨_, rfl⟩
      have HBA := Lib.hid (below_alloc' (Below.refl w7.heap.size w7) (.cells #[.int .i64 0] 3))
      have BI := Lib.hid (Boxed.new w7 3 (.int .i64 0))
      have qi := BI.out.cell
      have qf := BI.out.frozen
      go_wp2_with fail
      obtain ⟨W8, hW8⟩ : ∃ W, w7.alloc (.cells #[.int .i64 0] 3) = W := ⟨_, rfl⟩
      have BI8 := Lib.hid (show Boxed W8 w7.heap.size 3 (.int .i64 0) by rw [← hW8]; exact BI.out)
      have HB78 := Lib.hid (show Below w7.heap.size w7 W8 by rw [← hW8]; exact HBA.out)
      have HB8 := Lib.hid (below_then HB7.out HB78.out)
      have HX8 := Lib.hid (HX7.out.below HB78.out)
      have hseq := elems_seq2 5 (by omega) ls w6.heap.size b0 w7.heap.size (W8.heap.size + 1) w7 W8 HEl.out HB78.out (Nat.le_refl _) HLS'.out HLN.out
      have hlt8 : w7.heap.size < W8.heap.size := BI8.out.lt
      rw [hW8]
      rw [hbi] at hseq hlt8 BI8
      have hbw : w.heap.size + 1 < bi := by have := HX7.out.2.lt; omega
      clear hW8 qi qf BI HBA hbi HEl HB78
      have hF10 : Fence.wide.fn 10 := trivial
      refine (wpIn_wide (n := 6)).1 ?_
      apply range_mem1 (F := Fence.wide) (N := 196) rfl (by decide) rfl h16 (gf := 40) (lb := #[.pointer (some ⟨b0, 0, none⟩)]) rfl trivial (enters_of Tryd.func40 (by kernel_rfl) rfl) hseq
        (fun pre W => Boxed W bi 3 (.int .i64 pre.length) ∧ BX2 W w.heap.size (.slice C ls.length k) ∧ Below w.heap.size w W)
        (fun cd pre W => False)
      case gI => exact fun pre W V h hB => ⟨(hB.block _ h.1.lt).trans h.1, h.2.1.below hB, below_then h.2.2 hB⟩
      case sI => exact fun pre W r o hl h => ⟨(World.putObj_heap_other (by omega)).trans h.1, ⟨(World.putObj_heap_other (by omega)).trans h.2.1.1, (World.putObj_heap_other (by omega)).trans h.2.1.2⟩, h.2.2.trans (belowK_b (w := w) (Nat.le_refl _) W _ _ o (by omega) hl rfl rfl)⟩
      case sIx => exact fun cd pre W r o hl h => h.elim
      case sG => exact fun pre x W r o hl h => ⟨h.ix, h.sz1, by simpa [World.putObj] using h.sz2, h.same, h.ls, fun y hy => ownsRow_putObj (h.rows y hy) o hl rfl, h.apart⟩
      case sS => exact fun xs W r o hl h => ⟨h.1, fun y hy => ownsRow_putObj (h.2.1 y hy) o hl rfl, h.2.2⟩
      case sSp => exact fun xs W r o hl h => ⟨h.1, fun y hy => ownsRow_putObj (h.2.1 y hy) o hl rfl, h.2.2⟩
      case hK => exact fun xs W V r r2 o' hl hl2 h => kpY_loop h hl hl2 o'
      case h0 => exact ⟨BI8.out, HX8.out, HB8.out⟩
      case hstop => exact fun c pre W hS h => h.elim
      case hbody =>
        rintro pre y W ⟨hi, hbx, hB⟩ hG
        have hlt1 : pre.length < ls.length := by
          have h1 := hG.ls.length_le
          simp at h1; omega
        have hyl : ls[pre.length] = y.l := by
          obtain ⟨r, hr⟩ := hG.ls
          have : ls[pre.length]? = some y.l := by rw [← hr]; simp
          rw [List.getElem?_eq_getElem hlt1] at this
          injection this
        obtain ⟨cg, co, hC, Aj, cj, hcell, hle, hrd⟩ := HR3.out pre.length hlt1
        rw [hyl] at hcell hle hrd
        subst hC
        have qc := cell_below hB hcell
        have HRD := Lib.hid (hrd.below hB)
        have HYR := Lib.hid ((hG.rows y (by simp)).reads.2)
        have hyc := HLS'.out y.l (by rw [← hyl]; exact List.getElem_mem _)
        have hsz := hG.sz2
        have hsz1 := hG.sz1
        have qi := hi.cell
        have ql := hbx.1.cell
        have HI := Lib.hid hi
        have HBX := Lib.hid hbx
        have HBW := Lib.hid hB
        have hge : ¬ (ls.length : Int) ≤ (pre.length : Int) := by omega
        have hpi : (pre.length : Int) < (ls.length : Int) := by omega
        have hp0 : (0 : Int) ≤ (pre.length : Int) := Int.natCast_nonneg _
        have hwr : IntKind.i64.wrap ((pre.length : Int) + 1) = (pre.length : Int) + 1 := by rw [IntKind.wrap_i64]; omega
        clear hG hyl hcell hle hrd hi hbx hB
        gi_wp2_with (gi_at_call 10; refine (CallsIn.inRound _ (callsIn_wide.2 (rsame_self y.l _ _ rfl rfl y.A Aj y.c cj _ HYR.out HRD.out (by omega)))).mono ?_; rintro e W2 ⟨rfl, hb2⟩; have HI2 := Lib.hid (show Boxed W2 bi 3 (.int .i64 pre.length) from (hb2.block _ HI.out.lt).trans HI.out); have qi2 := HI2.out.cell; have qf2 := HI2.out.frozen; have HB2' := Lib.hid hb2; clear hb2)
        have hblk : ∀ j, j < W.heap.size → j ≠ bi → (W2.setCell ⟨bi, 0, none⟩ (.int .i64 ((pre.length : Int) + 1))).heap[j]? = W.heap[j]? := fun j hj hne => (Below.heap_setCell _ _ _ _ hne).trans (HB2'.out.block j hj)
        exact ⟨⟨hblk _ (by omega) (by omega), hblk _ (by omega) (by omega)⟩, kpY_box HB2'.out HI2.out, by have := HI2.out.set (.int .i64 ((pre.length : Int) + 1)); simpa using this,
          ⟨(hblk _ HBX.out.1.lt (by omega)).trans HBX.out.1, (hblk _ HBX.out.2.lt (by omega)).trans HBX.out.2⟩, (below_then HBW.out HB2'.out).setCell (p := ⟨bi, 0, none⟩) (by show w.heap.size ≤ bi; omega) _⟩
      case hdone =>
        rintro xs W hS ⟨hi, hbx, hB⟩ hK
        have hxl : xs.length = ls.length := by have := congrArg List.length hS.1; rwa [List.length_map] at this
        rw [hxl] at hi
        have qi := hi.cell
        have ql := hbx.1.cell
        have hnn : ((ls.length : Int) != (ls.length : Int)) = false := by simp
        obtain ⟨DF, hDF⟩ : ∃ D : World → Prop, D = fun V => V.heap[W8.heap.size]? = some (.deferred (some [])) := ⟨_, rfl⟩
        have HD8 := Lib.hid (show DF W by rw [hDF]; exact hK)
        have HDB := Lib.hid (show ∀ W V, DF W → Below W.heap.size W V → DF V by rw [hDF]; exact fun W V h hB => (hB.block _ (Array.getElem?_eq_some_iff.1 h).1).trans h)
        have HB8' := Lib.hid hB
        have HX8' := Lib.hid hbx
        have hle8 : w.heap.size + 1 < W8.heap.size := by omega
        clear hS hi hbx hB hK hxl HB8 HX8 HB7 HX7 BI8 hseq
        go_wp2_with fail
        have HBT0 := HB8'
        have HXT0 := HX8'
        refine (cons_any t u _ B c d _ (HR.out.below HBT0.out) (HR2.out.below HBT0.out) HF.out HF2.out hc hd (Utf8Tabs_below HT.out HBT0.out)).mono ?_
        obtain ⟨Y, hY⟩ : ∃ Y, consE t u = Y := ⟨_, rfl⟩
        rw [hY] at HCB HFC ⊢
        rintro e w10 ⟨A10, c10, rfl, h10⟩
        have hb10 := h10.bel
        have HR10 := Lib.hid h10.reads
        have HC10 := Lib.hid h10.cap
        have HB10 := Lib.hid (below_then HBT0.out hb10)
        have HX10 := Lib.hid (HXT0.out.below hb10)
        have HD10 := Lib.hid (HDB.out _ _ HD8.out hb10)
        clear h10 hb10 HBT0 HXT0 HD8 hY
        go_upto_if 120 with (fail)
        go_cut [22, 23, 24, 25] from 120 to 148 (fun s22 s23 s24 s25 wx => Hid (Below w.heap.size w wx) ∧ Hid (BX2 wx w.heap.size (.slice C ls.length k)) ∧ Hid (DF wx))
        case first =>
          by_cases hy : Y.2 = 0
          · have hyb : (Y.2 == 0) = true := by simp [hy]
            obtain ⟨_, hp0, hp1⟩ := HCB.out hy
            have HP0 := Lib.hid hp0
            have HP1 := Lib.hid hp1
            clear hy hp0 hp1 HCB
            go_wp2_with fail
            refine (opart_any Y.1 0 A10 c10 _ HR10.out HFC.out HC10.out (Utf8Tabs_below HT.out HB10.out)).mono ?_
            rw [HP0.out]
            rintro e w11 ⟨A11, c11, rfl, h11⟩
            have hb11 := h11.bel
            have HR11 := Lib.hid h11.reads
            have HR10' := Lib.hid (HR10.out.below hb11)
            have HB11 := Lib.hid (below_then HB10.out hb11)
            have HX11 := Lib.hid (HX10.out.below hb11)
            have HD11 := Lib.hid (HDB.out _ _ HD10.out hb11)
            clear h11 hb11
            go_wp2_with fail
            refine (opart_any Y.1 1 A10 c10 _ HR10'.out HFC.out HC10.out (Utf8Tabs_below HT.out HB11.out)).mono ?_
            rw [HP1.out]
            rintro e w12 ⟨A12, c12, rfl, h12⟩
            have hb12 := h12.bel
            have HR12 := Lib.hid h12.reads
            have HR11' := Lib.hid (HR11.out.below hb12)
            have HB12 := Lib.hid (below_then HB11.out hb12)
            have HX12 := Lib.hid (HX11.out.below hb12)
            have HD12 := Lib.hid (HDB.out _ _ HD11.out hb12)
            clear h12 hb12
            go_wp2_with fail
            refine (rsame_self t _ _ rfl rfl A11 _ c11 c _ HR11'.out (HR.out.below HB12.out) (by omega)).mono ?_
            rintro e w13 ⟨rfl, hb13⟩
            have HR12' := Lib.hid (HR12.out.below hb13)
            have HB13 := Lib.hid (below_then HB12.out hb13)
            have HX13 := Lib.hid (HX12.out.below hb13)
            have HD13 := Lib.hid (HDB.out _ _ HD12.out hb13)
            clear hb13
            go_wp2_with fail
            refine (rsame_self u _ _ rfl rfl A12 B c12 d _ HR12'.out (HR2.out.below HB13.out) (by omega)).mono ?_
            rintro e w14 ⟨rfl, hb14⟩
            have HB14 := Lib.hid (below_then HB13.out hb14)
            have HX14 := Lib.hid (HX13.out.below hb14)
            have HD14 := Lib.hid (HDB.out _ _ HD13.out hb14)
            clear hb14
            go_wp2
            go_meet
            exact ⟨HB14, HX14, HD14⟩
          · have hyb : (Y.2 == 0) = false := beq_eq_false_iff_ne.2 hy
            clear hy HCB
            go_wp2
            go_meet
            exact ⟨HB10, HX10, HD10⟩
        case rest =>
          obtain ⟨HB15, HX15, HD15⟩ := hcut
          clear HB10 HX10 HD10 HR10 HC10 HCB HFC
          go_wp2_with fail
          refine (int_any 1 _).mono ?_
          rintro e w16 ⟨A16, c16, rfl, h16'⟩
          have hb16 := h16'.bel
          have HB16 := Lib.hid (below_then HB15.out hb16)
          have HX16 := Lib.hid (HX15.out.below hb16)
          have HD16 := Lib.hid (HDB.out _ _ HD15.out hb16)
          have HS := Lib.hid (slAt_new2 (t := 22) h16'.reads h16'.cap (HR.out.below HB16.out) hc)
          clear h16' hb16 HB15 HX15 HD15
          go_wp2_with fail
          refine (tuple_any [[intC 1], t] _ _ _ HS.out (two_fine (fine_one (by decide)) HF.out) (by simp) (Utf8Tabs_below HT.out (below_alloc' HB16.out _))).mono ?_
          obtain ⟨U, hU⟩ : ∃ U, tupleE [[intC 1], t] = U := ⟨_, rfl⟩
          rw [hU] at HOB HFA ⊢
          rintro e w17 ⟨A17, c17, rfl, h17⟩
          have hb17 := below_then (below_one w16 _) h17.bel
          have HR17 := Lib.hid h17.reads
          have HC17 := Lib.hid h17.cap
          have HB17 := Lib.hid (below_then HB16.out hb17)
          have HX17 := Lib.hid (HX16.out.below hb17)
          have HD17 := Lib.hid (HDB.out _ _ HD16.out hb17)
          clear h17 hb17 HB16 HX16 HD16 HS hU
          go_wp2_with fail
          refine (int_any 1 _).mono ?_
          rintro e w18 ⟨A18, c18, rfl, h18⟩
          have hb18 := h18.bel
          have HR17' := Lib.hid (HR17.out.below hb18)
          have HB18 := Lib.hid (below_then HB17.out hb18)
          have HX18 := Lib.hid (HX17.out.below hb18)
          have HD18 := Lib.hid (HDB.out _ _ HD17.out hb18)
          have HS := Lib.hid (slAt_new2 (t := 22) h18.reads h18.cap (HR2.out.below HB18.out) hd)
          clear h18 hb18 HB17 HX17 HD17 HR17
          go_wp2_with fail
          refine (tuple_any [[intC 1], u] _ _ _ HS.out (two_fine (fine_one (by decide)) HF2.out) (by simp) (Utf8Tabs_below HT.out (below_alloc' HB18.out _))).mono ?_
          obtain ⟨V, hV⟩ : ∃ V, tupleE [[intC 1], u] = V := ⟨_, rfl⟩
          rw [hV] at HOB HFB ⊢
          rintro e w19 ⟨A19, c19, rfl, h19⟩
          have hb19 := below_then (below_one w18 _) h19.bel
          have HR19 := Lib.hid h19.reads
          have HC19 := Lib.hid h19.cap
          have HR17a := Lib.hid (HR17'.out.below hb19)
          have HB19 := Lib.hid (below_then HB18.out hb19)
          have HX19 := Lib.hid (HX18.out.below hb19)
          have HD19 := Lib.hid (HDB.out _ _ HD18.out hb19)
          clear h19 hb19 HB18 HX18 HD18 HS hV HR17'
          by_cases hu : U.2 = 0
          · by_cases hv : V.2 = 0
            · have hub : (U.2 != 0) = false := by simp [hu]
              have hvb : (V.2 != 0) = false := by simp [hv]
              obtain ⟨hc1, hc2⟩ := HOB.out hu hv
              have HC1 := Lib.hid hc1
              have HC2 := Lib.hid hc2
              clear hu hv hc1 hc2 HOB
              go_wp2_with fail
              refine (Compare_any U.1 V.1 A17 A19 c17 c19 _ HR17a.out HR19.out HFA.out HFB.out HC17.out HC19.out (Utf8Tabs_below HT.out HB19.out)).mono ?_
              rw [HC1.out]
              rintro e w20 ⟨rfl, hb20⟩
              have HB20 := Lib.hid (below_then HB19.out hb20)
              have HX20 := Lib.hid (HX19.out.below hb20)
              have HD20 := Lib.hid (HDB.out _ _ HD19.out hb20)
              clear hb20
              go_wp2_with fail
              refine (Compare_any t u _ B c d _ (HR.out.below HB20.out) (HR2.out.below HB20.out) HF.out HF2.out hc hd (Utf8Tabs_below HT.out HB20.out)).mono ?_
              rw [HC2.out]
              rintro e w21 ⟨rfl, hb21⟩
              have HB21 := Lib.hid (below_then HB20.out hb21)
              have HX21 := Lib.hid (HX20.out.below hb21)
              have HD21 := Lib.hid (HDB.out _ _ HD20.out hb21)
              have hmm : (termCmp t u == termCmp t u) = true := by simp
              clear hb21
              go_wp2_with fail
              refine (known5_any _ (Utf8Tabs_below HT.out HB21.out)).mono ?_
              rintro e w22 ⟨rfl, hb22⟩
              have HBZ := below_then HB21.out hb22
              have HXZ := HX21.out.below hb22
              have HDZ := HDB.out _ _ HD21.out hb22
              have q3 := HXZ.2.cell
              have q4 := HXZ.2.frozen
              clear hb22
              go_wp2
              rw [hDF] at HDZ
              have hDs : (w22.setCell ⟨w.heap.size + 1, 0, none⟩ (.bool true)).heap[W8.heap.size]? = some (.deferred (some [])) := (Below.heap_setCell _ _ _ _ (by show W8.heap.size ≠ w.heap.size + 1; omega)).trans HDZ
              have hBS := store_true HBZ
              have BS2 : Boxed ((w22.setCell ⟨w.heap.size + 1, 0, none⟩ (.bool true)).putObj W8.heap.size (.deferred none)) (w.heap.size + 1) 4 (.bool true) := (World.putObj_heap_other (by omega)).trans (HXZ.2.set (.bool true))
              have qe := BS2.cell
              refine leaves_ret (leaves_mark hDs (leaves_end (v := .bool true) ?_ ⟨rfl, hBS.trans (belowK_b (w := w) (Nat.le_refl _) _ _ _ _ (by omega) hDs rfl rfl)⟩))
              simp [results, Tryd.results4, go_sem, qe]
            · have hvb : (V.2 != 0) = true := by rw [bne_iff_ne]; exact hv
              have hub : (U.2 != 0) = false := by simp [hu]
              clear hu hv HOB
              go_wp2_with fail
              refine (known5_any _ (Utf8Tabs_below HT.out HB19.out)).mono ?_
              rintro e w22 ⟨rfl, hb22⟩
              have HBZ := below_then HB19.out hb22
              have HXZ := HX19.out.below hb22
              have HDZ := HDB.out _ _ HD19.out hb22
              have q3 := HXZ.2.cell
              have q4 := HXZ.2.frozen
              clear hb22
              go_wp2
              rw [hDF] at HDZ
              have hDs : (w22.setCell ⟨w.heap.size + 1, 0, none⟩ (.bool true)).heap[W8.heap.size]? = some (.deferred (some [])) := (Below.heap_setCell _ _ _ _ (by show W8.heap.size ≠ w.heap.size + 1; omega)).trans HDZ
              have hBS := store_true HBZ
              have BS2 : Boxed ((w22.setCell ⟨w.heap.size + 1, 0, none⟩ (.bool true)).putObj W8.heap.size (.deferred none)) (w.heap.size + 1) 4 (.bool true) := (World.putObj_heap_other (by omega)).trans (HXZ.2.set (.bool true))
              have qe := BS2.cell
              refine leaves_ret (leaves_mark hDs (leaves_end (v := .bool true) ?_ ⟨rfl, hBS.trans (belowK_b (w := w) (Nat.le_refl _) _ _ _ _ (by omega) hDs rfl rfl)⟩))
              simp [results, Tryd.results4, go_sem, qe]
          · have hub : (U.2 != 0) = true := by rw [bne_iff_ne]; exact hu
            clear hu HOB
            go_wp2_with fail
            refine (known5_any _ (Utf8Tabs_below HT.out HB19.out)).mono ?_
            rintro e w22 ⟨rfl, hb22⟩
            have HBZ := below_then HB19.out hb22
            have HXZ := HX19.out.below hb22
            have HDZ := HDB.out _ _ HD19.out hb22
            have q3 := HXZ.2.cell
            have q4 := HXZ.2.frozen
            clear hb22
            go_wp2
            rw [hDF] at HDZ
            have hDs : (w22.setCell ⟨w.heap.size + 1, 0, none⟩ (.bool true)).heap[W8.heap.size]? = some (.deferred (some [])) := (Below.heap_setCell _ _ _ _ (by show W8.heap.size ≠ w.heap.size + 1; omega)).trans HDZ
            have hBS := store_true HBZ
            have BS2 : Boxed ((w22.setCell ⟨w.heap.size + 1, 0, none⟩ (.bool true)).putObj W8.heap.size (.deferred none)) (w.heap.size + 1) 4 (.bool true) := (World.putObj_heap_other (by omega)).trans (HXZ.2.set (.bool true))
            have qe := BS2.cell
            refine leaves_ret (leaves_mark hDs (leaves_end (v := .bool true) ?_ ⟨rfl, hBS.trans (belowK_b (w := w) (Nat.le_refl _) _ _ _ _ (by omega) hDs rfl rfl)⟩))
            simp [results, Tryd.results4, go_sem, qe]
    · have hxb : (X.2 == 0) = false := beq_eq_false_iff_ne.2 hx
      clear hx HLS HLB
      obtain ⟨DF, hDF⟩ : ∃ D : World → Prop, D = fun V => True := ⟨_, rfl⟩
      have HD8 := Lib.hid (show DF w6 by rw [hDF]; trivial)
      have HDB := Lib.hid (show ∀ W V, DF W → Below W.heap.size W V → DF V by rw [hDF]; exact fun W V h hB => trivial)
      go_wp2_with fail
      have HBT0 := HB6
      have HXT0 := HX6
      refine (cons_any t u _ B c d _ (HR.out.below HBT0.out) (HR2.out.below HBT0.out) HF.out HF2.out hc hd (Utf8Tabs_below HT.out HBT0.out)).mono ?_
      obtain ⟨Y, hY⟩ : ∃ Y, consE t u = Y := ⟨_, rfl⟩
      rw [hY] at HCB HFC ⊢
      rintro e w10 ⟨A10, c10, rfl, h10⟩
      have hb10 := h10.bel
      have HR10 := Lib.hid h10.reads
      have HC10 := Lib.hid h10.cap
      have HB10 := Lib.hid (below_then HBT0.out hb10)
      have HX10 := Lib.hid (HXT0.out.below hb10)
      have HD10 := Lib.hid (HDB.out _ _ HD8.out hb10)
      clear h10 hb10 HBT0 HXT0 HD8 hY
      go_upto_if 120 with (fail)
      go_cut [22, 23, 24, 25] from 120 to 148 (fun s22 s23 s24 s25 wx => Hid (Below w.heap.size w wx) ∧ Hid (BX2 wx w.heap.size (.slice C ls.length k)) ∧ Hid (DF wx))
      case first =>
        by_cases hy : Y.2 = 0
        · have hyb : (Y.2 == 0) = true := by simp [hy]
          obtain ⟨_, hp0, hp1⟩ := HCB.out hy
          have HP0 := Lib.hid hp0
          have HP1 := Lib.hid hp1
          clear hy hp0 hp1 HCB
          go_wp2_with fail
          refine (opart_any Y.1 0 A10 c10 _ HR10.out HFC.out HC10.out (Utf8Tabs_below HT.out HB10.out)).mono ?_
          rw [HP0.out]
          rintro e w11 ⟨A11, c11, rfl, h11⟩
          have hb11 := h11.bel
          have HR11 := Lib.hid h11.reads
          have HR10' := Lib.hid (HR10.out.below hb11)
          have HB11 := Lib.hid (below_then HB10.out hb11)
          have HX11 := Lib.hid (HX10.out.below hb11)
          have HD11 := Lib.hid (HDB.out _ _ HD10.out hb11)
          clear h11 hb11
          go_wp2_with fail
          refine (opart_any Y.1 1 A10 c10 _ HR10'.out HFC.out HC10.out (Utf8Tabs_below HT.out HB11.out)).mono ?_
          rw [HP1.out]
          rintro e w12 ⟨A12, c12, rfl, h12⟩
          have hb12 := h12.bel
          have HR12 := Lib.hid h12.reads
          have HR11' := Lib.hid (HR11.out.below hb12)
          have HB12 := Lib.hid (below_then HB11.out hb12)
          have HX12 := Lib.hid (HX11.out.below hb12)
          have HD12 := Lib.hid (HDB.out _ _ HD11.out hb12)
          clear h12 hb12
          go_wp2_with fail
          refine (rsame_self t _ _ rfl rfl A11 _ c11 c _ HR11'.out (HR.out.below HB12.out) (by omega)).mono ?_
          rintro e w13 ⟨rfl, hb13⟩
          have HR12' := Lib.hid (HR12.out.below hb13)
          have HB13 := Lib.hid (below_then HB12.out hb13)
          have HX13 := Lib.hid (HX12.out.below hb13)
          have HD13 := Lib.hid (HDB.out _ _ HD12.out hb13)
          clear hb13
          go_wp2_with fail
          refine (rsame_self u _ _ rfl rfl A12 B c12 d _ HR12'.out (HR2.out.below HB13.out) (by omega)).mono ?_
          rintro e w14 ⟨rfl, hb14⟩
          have HB14 := Lib.hid (below_then HB13.out hb14)
          have HX14 := Lib.hid (HX13.out.below hb14)
          have HD14 := Lib.hid (HDB.out _ _ HD13.out hb14)
          clear hb14
          go_wp2
          go_meet
          exact ⟨HB14, HX14, HD14⟩
        · have hyb : (Y.2 == 0) = false := beq_eq_false_iff_ne.2 hy
          clear hy HCB
          go_wp2
          go_meet
          exact ⟨HB10, HX10, HD10⟩
      case rest =>
        obtain ⟨HB15, HX15, HD15⟩ := hcut
        clear HB10 HX10 HD10 HR10 HC10 HCB HFC
        go_wp2_with fail
        refine (int_any 1 _).mono ?_
        rintro e w16 ⟨A16, c16, rfl, h16'⟩
        have hb16 := h16'.bel
        have HB16 := Lib.hid (below_then HB15.out hb16)
        have HX16 := Lib.hid (HX15.out.below hb16)
        have HD16 := Lib.hid (HDB.out _ _ HD15.out hb16)
        have HS := Lib.hid (slAt_new2 (t := 22) h16'.reads h16'.cap (HR.out.below HB16.out) hc)
        clear h16' hb16 HB15 HX15 HD15
        go_wp2_with fail
        refine (tuple_any [[intC 1], t] _ _ _ HS.out (two_fine (fine_one (by decide)) HF.out) (by simp) (Utf8Tabs_below HT.out (below_alloc' HB16.out _))).mono ?_
        obtain ⟨U, hU⟩ : ∃ U, tupleE [[intC 1], t] = U := ⟨_, rfl⟩
        rw [hU] at HOB HFA ⊢
        rintro e w17 ⟨A17, c17, rfl, h17⟩
        have hb17 := below_then (below_one w16 _) h17.bel
        have HR17 := Lib.hid h17.reads
        have HC17 := Lib.hid h17.cap
        have HB17 := Lib.hid (below_then HB16.out hb17)
        have HX17 := Lib.hid (HX16.out.below hb17)
        have HD17 := Lib.hid (HDB.out _ _ HD16.out hb17)
        clear h17 hb17 HB16 HX16 HD16 HS hU
        go_wp2_with fail
        refine (int_any 1 _).mono ?_
        rintro e w18 ⟨A18, c18, rfl, h18⟩
        have hb18 := h18.bel
        have HR17' := Lib.hid (HR17.out.below hb18)
        have HB18 := Lib.hid (below_then HB17.out hb18)
        have HX18 := Lib.hid (HX17.out.below hb18)
        have HD18 := Lib.hid (HDB.out _ _ HD17.out hb18)
        have HS := Lib.hid (slAt_new2 (t := 22) h18.reads h18.cap (HR2.out.below HB18.out) hd)
        clear h18 hb18 HB17 HX17 HD17 HR17
        go_wp2_with fail
        refine (tuple_any [[intC 1], u] _ _ _ HS.out (two_fine (fine_one (by decide)) HF2.out) (by simp) (Utf8Tabs_below HT.out (below_alloc' HB18.out _))).mono ?_
        obtain ⟨V, hV⟩ : ∃ V, tupleE [[intC 1], u] = V := ⟨_, rfl⟩
        rw [hV] at HOB HFB ⊢
        rintro e w19 ⟨A19, c19, rfl, h19⟩
        have hb19 := below_then (below_one w18 _) h19.bel
        have HR19 := Lib.hid h19.reads
        have HC19 := Lib.hid h19.cap
        have HR17a := Lib.hid (HR17'.out.below hb19)
        have HB19 := Lib.hid (below_then HB18.out hb19)
        have HX19 := Lib.hid (HX18.out.below hb19)
        have HD19 := Lib.hid (HDB.out _ _ HD18.out hb19)
        clear h19 hb19 HB18 HX18 HD18 HS hV HR17'
        by_cases hu : U.2 = 0
        · by_cases hv : V.2 = 0
          · have hub : (U.2 != 0) = false := by simp [hu]
            have hvb : (V.2 != 0) = false := by simp [hv]
            obtain ⟨hc1, hc2⟩ := HOB.out hu hv
            have HC1 := Lib.hid hc1
            have HC2 := Lib.hid hc2
            clear hu hv hc1 hc2 HOB
            go_wp2_with fail
            refine (Compare_any U.1 V.1 A17 A19 c17 c19 _ HR17a.out HR19.out HFA.out HFB.out HC17.out HC19.out (Utf8Tabs_below HT.out HB19.out)).mono ?_
            rw [HC1.out]
            rintro e w20 ⟨rfl, hb20⟩
            have HB20 := Lib.hid (below_then HB19.out hb20)
            have HX20 := Lib.hid (HX19.out.below hb20)
            have HD20 := Lib.hid (HDB.out _ _ HD19.out hb20)
            clear hb20
            go_wp2_with fail
            refine (Compare_any t u _ B c d _ (HR.out.below HB20.out) (HR2.out.below HB20.out) HF.out HF2.out hc hd (Utf8Tabs_below HT.out HB20.out)).mono ?_
            rw [HC2.out]
            rintro e w21 ⟨rfl, hb21⟩
            have HB21 := Lib.hid (below_then HB20.out hb21)
            have HX21 := Lib.hid (HX20.out.below hb21)
            have HD21 := Lib.hid (HDB.out _ _ HD20.out hb21)
            have hmm : (termCmp t u == termCmp t u) = true := by simp
            clear hb21
            go_wp2_with fail
            refine (known5_any _ (Utf8Tabs_below HT.out HB21.out)).mono ?_
            rintro e w22 ⟨rfl, hb22⟩
            have HBZ := below_then HB21.out hb22
            have HXZ := HX21.out.below hb22
            have HDZ := HDB.out _ _ HD21.out hb22
            have q3 := HXZ.2.cell
            have q4 := HXZ.2.frozen
            clear hb22
            go_wp2
            have BS2 := HXZ.2.set (.bool true)
            have qe := BS2.cell
            refine leaves_ret (leaves_end (v := .bool true) ?_ ⟨rfl, store_true HBZ⟩)
            simp [results, Tryd.results4, go_sem, qe]
          · have hvb : (V.2 != 0) = true := by rw [bne_iff_ne]; exact hv
            have hub : (U.2 != 0) = false := by simp [hu]
            clear hu hv HOB
            go_wp2_with fail
            refine (known5_any _ (Utf8Tabs_below HT.out HB19.out)).mono ?_
            rintro e w22 ⟨rfl, hb22⟩
            have HBZ := below_then HB19.out hb22
            have HXZ := HX19.out.below hb22
            have HDZ := HDB.out _ _ HD19.out hb22
            have q3 := HXZ.2.cell
            have q4 := HXZ.2.frozen
            clear hb22
            go_wp2
            have BS2 := HXZ.2.set (.bool true)
            have qe := BS2.cell
            refine leaves_ret (leaves_end (v := .bool true) ?_ ⟨rfl, store_true HBZ⟩)
            simp [results, Tryd.results4, go_sem, qe]
        · have hub : (U.2 != 0) = true := by rw [bne_iff_ne]; exact hu
          clear hu HOB
          go_wp2_with fail
          refine (known5_any _ (Utf8Tabs_below HT.out HB19.out)).mono ?_
          rintro e w22 ⟨rfl, hb22⟩
          have HBZ := below_then HB19.out hb22
          have HXZ := HX19.out.below hb22
          have HDZ := HDB.out _ _ HD19.out hb22
          have q3 := HXZ.2.cell
          have q4 := HXZ.2.frozen
          clear hb22
          go_wp2
          have BS2 := HXZ.2.set (.bool true)
          have qe := BS2.cell
          refine leaves_ret (leaves_end (v := .bool true) ?_ ⟨rfl, store_true HBZ⟩)
          simp [results, Tryd.results4, go_sem, qe]
theorem oback_row (A : Option Addr) (c : Nat) (t : List CellD) (B : Option Addr) (d : Nat) (u : List CellD) (C : Option Addr) (k : Nat) (ls : List (List CellD)) (w : World) (hT : Tabs w) (hc : t.length ≤ c) (hr : Reads w A t) (hs : ∀ j (h : j < t.length), (t[j]).text.size ≤ 9223372036854775807) (hy : t.length * 32 ≤ 140737488351232) (hd : u.length ≤ d) (hr2 : Reads w B u) (hs2 : ∀ j (h : j < u.length), (u[j]).text.size ≤ 9223372036854775807) (hy2 : u.length * 32 ≤ 140737488351232) (hck : ls.length ≤ k) (hr3 : Reads2 w C ls) (hf3 : Fine2 ls) (hn : ls.length * 24 ≤ 140737488351232) :
    Calls Tryd.prog 4 #[.slice A t.length c, .slice B u.length d, .slice C ls.length k] w fun e w' => e = .returned (.bool true) ∧ Below w.heap.size w w' :=
  callsIn_wide.1 (oback_in t u ls A B C c d k w hr ⟨hy, hs⟩ hc hr2 ⟨hy2, hs2⟩ hd hr3 hf3 (by omega) hT)
end Go.Proofs.YtfeaolnklooanaaDoor.Tm
