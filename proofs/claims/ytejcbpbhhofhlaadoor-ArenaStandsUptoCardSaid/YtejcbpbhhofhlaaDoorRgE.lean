/- Layer 3's reference: parts, Term, Get. -/
import Derived.Test.YtejcbpbhhofhlaaDoorRfH
import Derived.WalkMore
namespace Go.Proofs.YtejcbpbhhofhlaaDoor.Tm
open Go.RowKit
set_option linter.unusedVariables false
set_option linter.unusedSimpArgs false

def partsR (rs : List ObjR) (v : ValR) : List ValR := if v.obj < 0 ∨ (rs.length : Int) ≤ v.obj then [] else ((rs[v.obj.toNat]?).map ObjR.parts).getD []
theorem parts_val {l : List ObjA} (hw : WfA l) {x : Int} {c : CellD} {ps : List Int} (hs : seenA l x = some (c, ps)) : ∃ k : Int, valR l x = ⟨k, c⟩ ∧ -1 ≤ k ∧ k < l.length ∧ partsR (refOf l) ⟨k, c⟩ = ps.map (valR l) := by
  obtain ⟨k, hk⟩ := seen_find hs
  have hlt := findA_lt hk
  refine ⟨k, val_seen hk hs, hlt.1, hlt.2, ?_⟩
  unfold partsR
  simp only [refOf_len]
  rcases seen_obj hs with ⟨hf, _, hp⟩ | ⟨j, hj, hf, _, hp⟩
  · rw [hk] at hf
    have : k = -1 := Option.some.inj hf
    rw [if_pos (.inl (by omega)), hp]
    rfl
  · rw [hk] at hf
    have : k = (j : Int) := Option.some.inj hf
    subst this
    rw [if_neg (by omega), Int.toNat_natCast, hp]
    unfold refOf
    rw [List.getElem?_map, List.getElem?_eq_getElem hj]
    rfl
set_option maxHeartbeats 2000000 in
theorem rparts_any (w : World) (O : Nat → Prop) (ra cells : Nat) (rs : List ObjR) (k : Int) (c : CellD) (h : RfAt w O ra cells rs) (hk : -1 ≤ k ∧ k < rs.length) (hl : rs.length ≤ 1000000) :
    Calls Tryd.prog 79 #[.pointer (some ⟨ra, 0, none⟩), .agg #[.int .i64 k, .int .i64 c.kind, .int .i64 c.n, .string c.text]] w fun e w' => (∃ A cp, e = .returned (.slice A (partsR rs ⟨k, c⟩).length cp) ∧ (partsR rs ⟨k, c⟩).length ≤ cp ∧ VReads w' A (partsR rs ⟨k, c⟩) ∧ (∀ b o, A = some ⟨b, o, none⟩ → O b)) ∧ Below w.heap.size w w' := by
  have hB0 := below_one w (.cells #[.int .i64 k, .int .i64 c.kind, .int .i64 c.n, .string c.text] 39)
  by_cases hn : k < 0
  · have E := Lib.hid (show partsR rs ⟨k, c⟩ = [] by unfold partsR; rw [if_pos (.inl hn)])
    have hb : decide (k < 0) = true := decide_eq_true hn
    obtain ⟨vO, pv, hR⟩ := h
    obtain ⟨AO, cO, hvO⟩ := row_slice hR.row
    obtain ⟨c0, c1⟩ := hR.cells
    rw [hvO] at c1
    have c1b := cell_below hB0 c1
    go_enter Tryd.func79, Tryd.ntmps79
    go_wp2_with fail
    go_quiet (fail)
    go_wp2
    go_ret
    rw [E.out]
    exact ⟨⟨none, 0, rfl, Nat.le_refl _, VReads.nil _ _, fun b o e => by cases e⟩, below_drewA hB0 _⟩
  · obtain ⟨j, rfl⟩ : ∃ j : Nat, k = (j : Int) := ⟨k.toNat, by omega⟩
    have hj : j < rs.length := by omega
    have hb : decide ((j : Int) < 0) = false := decide_eq_false hn
    obtain ⟨vO, pv, hR⟩ := h
    obtain ⟨g, cO, hvO, o0, o1, o2, o3⟩ := hR.objs j hj
    obtain ⟨c0, c1⟩ := hR.cells
    rw [hvO] at c1
    have hpj : j < pv.length := by rw [hR.pl]; exact hj
    obtain ⟨A, cp, hpv, hpc, hpr, hpo⟩ := hR.ps j hj hpj
    rw [show pv[j]? = some pv[j] by simp [hpj], hpv] at o3
    have E := Lib.hid (show partsR rs ⟨(j : Int), c⟩ = rs[j].parts by
      unfold partsR
      rw [if_neg (by simp only; omega), Int.toNat_natCast, List.getElem?_eq_getElem hj]
      rfl)
    have c1b := cell_below hB0 c1
    have o3b := cell_below hB0 o3
    have HPR := Lib.hid (hpr.below hB0)
    have HPO := Lib.hid (fun b o e => (hpo b o e).1)
    have hlb : decide ((rs.length : Int) ≤ (j : Int)) = false := decide_eq_false (by omega)
    have hln : ¬ rs.length ≤ j := by omega
    have hj1 : (j : Int) < (rs.length : Int) := by omega
    obtain ⟨p, hp⟩ : ∃ p, rs[j].parts = p := ⟨_, rfl⟩
    rw [hp] at E o3 o3b HPR hpc
    clear hR hvO c0 c1 o0 o1 o2 o3 hpv hpr hpo hp
    go_enter Tryd.func79, Tryd.ntmps79
    go_wp2_with fail
    go_quiet (fail)
    go_wp2_with fail
    go_quiet (fail)
    go_wp2
    go_ret
    rw [E.out]
    exact ⟨⟨A, cp, rfl, hpc, HPR.out, HPO.out⟩, below_drewA (below_drewA hB0 _) _⟩
structure TermRep (w wr : World) (T : List CellD) (vS : List ValR) (vT vD : Value) : Prop where
  base : Below w.heap.size w wr
  out : wr.ownsRow w.heap.size 37 3 vT T.length (encs T)
  stk : wr.ownsRow w.heap.size 39 4 vD vS.length (encVs vS)
theorem TermRep.below {w wr w' : World} {T : List CellD} {vS : List ValR} {vT vD : Value} (h : TermRep w wr T vS vT vD) (hB : Below wr.heap.size wr w') : TermRep w w' T vS vT vD := ⟨below_then h.base hB, row_below h.out hB, row_below h.stk hB⟩
theorem TermRep.last {w wr : World} {T : List CellD} {vS : List ValR} {v : ValR} {vT vD : Value} (h : TermRep w wr T (vS ++ [v]) vT vD) :
    ∃ g cap, vD = .slice (some ⟨g, 0, none⟩) (vS.length + 1) cap ∧ vS.length + 1 ≤ cap ∧ wr.cell? ⟨g, vS.length * 4, none⟩ = some (.int .i64 v.obj) ∧ wr.cell? ⟨g, vS.length * 4 + 1, none⟩ = some (.int .i64 v.cell.kind) ∧ wr.cell? ⟨g, vS.length * 4 + 2, none⟩ = some (.int .i64 v.cell.n) ∧ wr.cell? ⟨g, vS.length * 4 + 3, none⟩ = some (.string v.cell.text) := by
  have hr := h.stk
  rw [List.length_append, List.length_singleton, encVs_snoc] at hr
  rcases hr.2 with ⟨_, h0⟩ | ⟨g, cap, cur, rfl, _, _, hc, _⟩
  · omega
  · have hl := encVs_len vS
    refine ⟨g, cap, rfl, hc, ?_, ?_, ?_, ?_⟩
    all_goals
      rw [hr.cellAt _ (by omega), List.getElem?_append_right (by omega), hl]
      simp [encV]
theorem TermRep.pop {w wr : World} {T : List CellD} {vS : List ValR} {v : ValR} {vT : Value} {g cap : Nat} (h : TermRep w wr T (vS ++ [v]) vT (.slice (some ⟨g, 0, none⟩) (vS.length + 1) cap)) : TermRep w wr T vS vT (.slice (some ⟨g, 0, none⟩) vS.length cap) := by
  have hr := h.stk
  rw [List.length_append, List.length_singleton, encVs_snoc] at hr
  exact ⟨h.base, h.out, ownsRow_pop (encVs_len vS) hr⟩
theorem TermRep.more {w wr wa w' : World} {T : List CellD} {vS : List ValR} {vT vD : Value} (h : TermRep w wr T vS vT vD) (hB : Below wr.heap.size wr wa) (hg : wa.grownBy w' vT.ownBlock) {c : CellD} {g cap : Nat}
    (hrow : w'.ownsRow w.heap.size 37 3 (.slice (some ⟨g, 0, none⟩) (T.length + 1) cap) (T.length + 1) (encs T ++ [.int .i64 c.kind, .int .i64 c.n, .string c.text])) : TermRep w w' (T ++ [c]) vS (.slice (some ⟨g, 0, none⟩) (T.length + 1) cap) vD := by
  have h := h.below hB
  refine ⟨below_grown h.base hg (row_base h.out), ?_, h.stk.kept hg (rows_ne h.stk h.out (by decide))⟩
  rw [List.length_append, List.length_singleton, encs_append]
  exact hrow
theorem TermRep.push {w wr wa w' : World} {T : List CellD} {vS : List ValR} {vT vD : Value} (h : TermRep w wr T vS vT vD) (hB : Below wr.heap.size wr wa) (hg : wa.grownBy w' vD.ownBlock) {v : ValR} {g cap : Nat}
    (hrow : w'.ownsRow w.heap.size 39 4 (.slice (some ⟨g, 0, none⟩) (vS.length + 1) cap) (vS.length + 1) (encVs vS ++ encV v)) : TermRep w w' T (vS ++ [v]) vT (.slice (some ⟨g, 0, none⟩) (vS.length + 1) cap) := by
  have h := h.below hB
  refine ⟨below_grown h.base hg (row_base h.stk), h.out.kept hg (rows_ne h.out h.stk (by decide)), ?_⟩
  rw [List.length_append, List.length_singleton, encVs_snoc]
  exact hrow
structure TermNow (l : List ObjA) (t T : List CellD) (sB : List Int) : Prop where
  rest : ∃ u, t = T ++ u ∧ Tells l sB.reverse u
  lt : T.length ≤ 1025
  st : sB.length ≤ 1 + 255 * T.length
theorem parts_kids {l : List ObjA} (hw : WfA l) {x : Int} {c : CellD} {ps : List Int} (hs : seenA l x = some (c, ps)) : ps.length ≤ 255 := by
  rcases seen_obj hs with ⟨_, _, rfl⟩ | ⟨k, hk, _, _, rfl⟩
  · simp
  · rw [(hw k hk).kids]; exact kidsD_le _
set_option maxRecDepth 10000 in
set_option maxHeartbeats 4000000 in
theorem rterm_any (w : World) (O : Nat → Prop) (ra cells : Nat) (l : List ObjA) (x : Int) (t : List CellD) (h : RfAt w O ra cells (refOf l)) (hw : WfA l) (hll : l.length ≤ 1000000) (ht : Tells l [x] t) :
    Calls Tryd.prog 69 #[.pointer (some ⟨ra, 0, none⟩), (valR l x).agg] w fun e w' => ∃ A c, e = .returned (.slice A (t.take 1025).length c) ∧ w'.ownsRow w.heap.size 37 3 (.slice A (t.take 1025).length c) (t.take 1025).length (encs (t.take 1025)) ∧ Below w.heap.size w w' := by
  obtain ⟨v0, hv0⟩ : ∃ v, valR l x = v := ⟨_, rfl⟩
  rw [hv0]
  unfold ValR.agg
  have HR := Lib.hid h
  have HW := Lib.hid hw
  have HT := Lib.hid ht
  have HV := Lib.hid hv0
  clear h hw ht hv0
  go_enter Tryd.func69, Tryd.ntmps69
  go_wp2_with fail
  have hB0 := below_one w (.cells #[.int .i64 v0.obj, .int .i64 v0.cell.kind, .int .i64 v0.cell.n, .string v0.cell.text] 39)
  have HI : Hid (TermRep w ((w.alloc (.cells #[.int .i64 v0.obj, .int .i64 v0.cell.kind, .int .i64 v0.cell.n, .string v0.cell.text] 39)).alloc (.cells #[.int .i64 v0.obj, .int .i64 v0.cell.kind, .int .i64 v0.cell.n, .string v0.cell.text] 39)) [] [v0] (.slice none 0 0) (.slice (some ⟨w.heap.size + 1, 0, none⟩) 1 1)) := by
    refine Lib.hid ⟨below_alloc' hB0 _, row_nil _ _ _ _, ?_⟩
    have hn := heap_new (w.alloc (.cells #[.int .i64 v0.obj, .int .i64 v0.cell.kind, .int .i64 v0.cell.n, .string v0.cell.text] 39)) (.cells #[.int .i64 v0.obj, .int .i64 v0.cell.kind, .int .i64 v0.cell.n, .string v0.cell.text] 39)
    rw [World.size_alloc] at hn
    exact ⟨by simp [encVs, encV], .inr ⟨w.heap.size + 1, 1, _, rfl, by omega, hn, Nat.le_refl _, by decide, rfl, rfl⟩⟩
  have HN : Hid (TermNow l t [] [x]) := Lib.hid ⟨⟨t, by simp, HT.out⟩, by simp, by simp⟩
  go_loopw [5, 6] (fun vT vD wr => ∃ (T : List CellD) (sB : List Int), Hid (TermRep w wr T (sB.map (valR l)) vT vD) ∧ Hid (TermNow l t T sB)) (fun vT vD wr => 1025 - sliceLen vT)
  case atStart => exact ⟨[], [x], Lib.hid (by
    show TermRep w _ [] [valR l x] _ _
    rw [HV.out]
    exact HI.out), HN⟩
  case round =>
    clear HI HN hB0
    obtain ⟨T, sB, hR, hN⟩ := hrel
    obtain ⟨u, hu, htl⟩ := hN.out.rest
    have hTl := hN.out.lt
    have hsl := hN.out.st
    obtain ⟨AT, cT, hvT⟩ := row_slice hR.out.out
    subst hvT
    rcases List.eq_nil_or_concat sB with rfl | ⟨s0, y, rfl⟩
    · obtain ⟨AS, cS, hvS⟩ := row_slice hR.out.stk
      rw [List.map_nil, List.length_nil] at hvS
      subst hvS
      have hu0 : u = [] := by cases htl; rfl
      rw [hu0, List.append_nil] at hu
      subst hu
      have HE := Lib.hid (show t.take 1025 = t from List.take_of_length_le hTl)
      have HF := Lib.hid (⟨hR.out.out, hR.out.base⟩ : wr.ownsRow w.heap.size 37 3 (.slice AT t.length cT) t.length (encs t) ∧ Below w.heap.size w wr)
      clear hR hN htl
      go_wp2
      go_ret
      rw [HE.out]
      exact ⟨AT, cT, rfl, HF.out.1, HF.out.2⟩
    · rw [List.concat_eq_append] at hR hN hsl
      rw [List.concat_eq_append, List.reverse_append, List.reverse_singleton, List.singleton_append] at htl
      rw [List.map_append, List.map_singleton] at hR
      obtain ⟨g, cp, rfl, hcp, q0, q1, q2, q3⟩ := hR.out.last
      rw [List.length_map] at hcp q0 q1 q2 q3
      rw [List.length_append, List.length_singleton] at hsl
      obtain ⟨m, hm⟩ : ∃ m, s0.length + 1 = m := ⟨_, rfl⟩
      have hs0' : s0.length = m - 1 := by omega
      rw [hs0'] at q0 q1 q2 q3
      have HM := Lib.hid hm
      have g1 : decide ((0 : Int) < (m : Int)) = true := decide_eq_true (by omega)
      have g2 : 0 < m := by omega
      have hRR : Hid (TermRep w wr T (s0.map (valR l) ++ [valR l y]) (.slice AT T.length cT) (.slice (some ⟨g, 0, none⟩) ((s0.map (valR l)).length + 1) cp)) := hR
      rw [List.length_map, hm]
      by_cases hfull : T.length = 1025
      · have hb : decide ((T.length : Int) ≤ 1024) = false := decide_eq_false (by omega)
        have hbn : ¬ T.length ≤ 1024 := by omega
        have HE := Lib.hid (show t.take 1025 = T by rw [hu, List.take_append_of_le_length (by omega), List.take_of_length_le (by omega)])
        have HF := Lib.hid (⟨hR.out.out, hR.out.base⟩ : wr.ownsRow w.heap.size 37 3 (.slice AT T.length cT) T.length (encs T) ∧ Below w.heap.size w wr)
        clear hR hN htl hRR hu
        go_wp2
        go_ret
        rw [HE.out]
        exact ⟨AT, cT, rfl, HF.out.1, HF.out.2⟩
      · have hb : decide ((T.length : Int) ≤ 1024) = true := decide_eq_true (by omega)
        have hbn : T.length ≤ 1024 := by omega
        cases htl with
        | @cons _ _ c2 ps2 u2 hs2 ht2 =>
        obtain ⟨k, hv, hk1, hk2, hpv⟩ := parts_val HW.out hs2
        have hpk := parts_kids HW.out hs2
        rw [hv] at q0 q1 q2 q3
        have HN2 : Hid (TermNow l t (T ++ [c2]) (s0 ++ ps2.reverse)) := Lib.hid ⟨⟨u2, by rw [hu]; simp, by simpa using ht2⟩, by simp; omega, by simp; omega⟩
        have HRf := Lib.hid (HR.out.below hR.out.base)
        have w3 : IntKind.i64.wrap ((m : Int) - 1) = (m : Int) - 1 := by rw [IntKind.wrap_i64]; omega
        have b2 : (0 : Int) ≤ (m : Int) - 1 := by omega
        have b2' : (1 : Int) ≤ (m : Int) := by omega
        have d2 : (m : Int) - 1 < (m : Int) := by omega
        have t2 : ((m : Int) - 1).toNat = m - 1 := by omega
        have d3 : m - 1 < m := by omega
        have hcp' : m ≤ cp := by omega
        have hsz := hR.out.base.size
        obtain ⟨i0, hi, hz0, hz1, hz2⟩ := info_parts outword_info
        have hA1 : T.length + 1 ≤ maxLen := by unfold maxLen; omega
        have hA2 : (T.length + 1) * 32 ≤ 140737488355328 := by omega
        have HV2 := Lib.hid hv
        have HPV := Lib.hid hpv
        clear hR hN hu hs2 ht2 hm hs0' hv hpv hfull
        have hA3 : w.heap.size ≤ ((wr.alloc (.cells #[.int .i64 k, .int .i64 c2.kind, .int .i64 c2.n, .string c2.text] 39)).alloc (.cells #[.int .i64 c2.kind, .int .i64 c2.n, .string c2.text] 37)).heap.size := by rw [World.size_alloc, World.size_alloc]; omega
        have hA4 := heap_alloc_new (wr.alloc (.cells #[.int .i64 k, .int .i64 c2.kind, .int .i64 c2.n, .string c2.text] 39)) (.cells #[.int .i64 c2.kind, .int .i64 c2.n, .string c2.text] 37)
        rw [World.size_alloc] at hA4
        have hBv := below_one wr (.cells #[.int .i64 k, .int .i64 c2.kind, .int .i64 c2.n, .string c2.text] 39)
        have HR1 : Hid (TermRep w (wr.alloc (.cells #[.int .i64 k, .int .i64 c2.kind, .int .i64 c2.n, .string c2.text] 39)) T (s0.map (valR l)) (.slice AT T.length cT) (.slice (some ⟨g, 0, none⟩) (m - 1) cp)) := Lib.hid (by
          have h1 := hRR.out.pop
          rw [List.length_map, show s0.length = m - 1 by have := HM.out; omega] at h1
          exact h1.below hBv)
        have BV : BlkIs ((wr.alloc (.cells #[.int .i64 k, .int .i64 c2.kind, .int .i64 c2.n, .string c2.text] 39)).alloc (.cells #[.int .i64 c2.kind, .int .i64 c2.n, .string c2.text] 37)) wr.heap.size #[.int .i64 k, .int .i64 c2.kind, .int .i64 c2.n, .string c2.text] 39 := BlkIs.below (heap_new wr (.cells #[.int .i64 k, .int .i64 c2.kind, .int .i64 c2.n, .string c2.text] 39)) (below_one _ _)
        have HBV := Lib.hid BV
        clear BV
        have hol := Lib.hid (fun k hk => row_lt hRR.out.out k hk)
        clear hRR
        go_wp2_with (at_builtin
                     refine wpList_append_lies _ rfl _ _ _ rfl w.heap.size 37 i0 _ 3 32 Tryd.underlying35 hi hz0 hz1 hz2 rfl (by omega) (.slice AT T.length cT) T.length (encs T) rfl (HR1.out.out.alloc _) ⟨wr.heap.size + 1, 0, none⟩ 1 1 [.int .i64 c2.kind, .int .i64 c2.n, .string c2.text] rfl rfl (World.news_of_block (cs := #[.int .i64 c2.kind, .int .i64 c2.n, .string c2.text]) (t := 37) (fr := (0, 0)) hA4) one3 (by omega) hA1 hA2 hA3 _ rfl ?_
                     intro g3 capT w6 hown6 hgrow6 hat6 hlt6
                     have BV6 := HBV.out.grown hgrow6 (fun e => by have := hol.out _ e; omega)
                     have m0 := BV6.cell 0 (v := .int .i64 k) rfl
                     have m1 := BV6.cell 1 (v := .int .i64 c2.kind) rfl
                     have m2 := BV6.cell 2 (v := .int .i64 c2.n) rfl
                     have m3 := BV6.cell 3 (v := .string c2.text) rfl
                     have HR2 := Lib.hid (HR1.out.more (below_one _ _) hgrow6 hown6)
                     have HRf6 := Lib.hid ((HR.out.below HR2.out.base)))
        refine (rparts_any w6 O ra cells (refOf l) k c2 HRf6.out ⟨hk1, by rw [refOf_len]; exact hk2⟩ (by rw [refOf_len]; exact hll)).mono ?_
        rintro e w7 ⟨⟨A2, cp2, rfl, hcp2, hVr, hO2⟩, hb7⟩
        rw [HPV.out] at hVr hcp2
        rw [HPV.out, List.length_map]
        rw [List.length_map] at hcp2
        have HR3 := Lib.hid (HR2.out.below hb7)
        have HO2 := Lib.hid hO2
        have HVR := Lib.hid hVr
        have HLIM := Lib.hid (fun b hb => (HR.out.lim b hb).2)
        have wn1 : IntKind.i64.wrap ((ps2.length : Int) - 1) = (ps2.length : Int) - 1 := by rw [IntKind.wrap_i64]; omega
        clear m0 m1 m2 m3 BV6 hgrow6 hown6 hat6 hlt6 hb7 hVr hO2 HR2 HRf6 HRf HR1 HBV hol hA1 hA2 hA3 hA4 hBv hi hz0 hz1 hz2 i0 q0 q1 q2 q3
        go_wp2_with fail
        go_loopw [6, 9] (fun vD i wr => ∃ (j : Nat), j ≤ ps2.length ∧ i = .int .i64 ((ps2.length : Int) - 1 - (j : Int)) ∧ Hid (TermRep w wr (T ++ [c2]) ((s0 ++ ps2.reverse.take j).map (valR l)) (.slice (some ⟨g3, 0, none⟩) (T.length + 1) capT) vD)) (fun vD i wr => (intOf i + 1).toNat)
        case atStart => exact ⟨0, Nat.zero_le _, by simp, by simpa using HR3⟩
        case round =>
          obtain ⟨j, hj, rfl, hG⟩ := hrel
          by_cases hlt : j < ps2.length
          · have hidx : ps2.length - 1 - j < (ps2.map (valR l)).length := by rw [List.length_map]; omega
            have hidx2 : ps2.length - 1 - j < ps2.length := by omega
            have hWr : VReads wr A2 (ps2.map (valR l)) := HVR.out.same fun g o e => by
              have hlt := HLIM.out g (HO2.out g o e)
              rw [hG.out.base.block g hlt, HR3.out.base.block g hlt]
            obtain ⟨b, o, rfl, k0, k1, k2, k3⟩ := hWr (ps2.length - 1 - j) hidx
            rw [List.getElem_map] at k0 k1 k2 k3
            have hnext : s0 ++ ps2.reverse.take (j + 1) = (s0 ++ ps2.reverse.take j) ++ [ps2[ps2.length - 1 - j]] := by
              rw [List.take_succ_eq_append_getElem (by simpa using hlt), List.getElem_reverse, List.append_assoc]
            have HNX := Lib.hid hnext
            obtain ⟨M, hM⟩ : ∃ M, ((s0 ++ ps2.reverse.take j).map (valR l)).length = M := ⟨_, rfl⟩
            have hMle : M ≤ 1000000 := by rw [← hM]; simp; omega
            obtain ⟨AS, cS, hvS⟩ := row_slice hG.out.stk
            rw [hM] at hvS
            subst hvS
            have HG := hG
            have hrow := hG.out.stk
            rw [hM] at hrow
            have HROW := Lib.hid hrow
            have HMM := Lib.hid hM
            obtain ⟨v, hv⟩ : ∃ v, valR l ps2[ps2.length - 1 - j] = v := ⟨_, rfl⟩
            rw [hv] at k0 k1 k2 k3
            have HVV := Lib.hid hv
            obtain ⟨n, hn⟩ : ∃ n, ps2.length = n := ⟨_, rfl⟩
            have hsw := hG.out.base.size
            have e3 : (0 : Int) ≤ (n : Int) - 1 - (j : Int) := by omega
            have e4 : (n : Int) - 1 - (j : Int) < (n : Int) := by omega
            have e5 : ((n : Int) - 1 - (j : Int)).toNat = n - 1 - j := by omega
            have e6 : n - 1 - j < n := by omega
            have e7 : decide ((0 : Int) ≤ (n : Int) - 1 - (j : Int)) = true := decide_eq_true e3
            have e8 : IntKind.i64.wrap ((n : Int) - 1 - (j : Int) - 1) = (n : Int) - 1 - (j : Int) - 1 := by rw [IntKind.wrap_i64]; omega
            obtain ⟨i0, hi, hz0, hz1, hz2⟩ := info_parts val_info
            have hA1 : M + 1 ≤ maxLen := by unfold maxLen; omega
            have hA2 : (M + 1) * 40 ≤ 140737488355328 := by omega
            have hA3 : w.heap.size ≤ (wr.alloc (.cells #[.int .i64 v.obj, .int .i64 v.cell.kind, .int .i64 v.cell.n, .string v.cell.text] 39)).heap.size := by rw [World.size_alloc]; omega
            have HNN := Lib.hid hn
            rw [hn] at k0 k1 k2 k3 ⊢
            clear hG hrow hM hWr hnext hv hn
            go_wp2_with (at_builtin
                         refine wpList_append_lies _ rfl _ _ _ rfl w.heap.size 39 i0 _ 4 40 Tryd.underlying97 hi hz0 hz1 hz2 rfl (by omega) (.slice AS M cS) M (encVs ((s0 ++ ps2.reverse.take j).map (valR l))) rfl (HROW.out.alloc _) ⟨wr.heap.size, 0, none⟩ 1 1 [.int .i64 v.obj, .int .i64 v.cell.kind, .int .i64 v.cell.n, .string v.cell.text] rfl rfl (World.news_of_block (cs := #[.int .i64 v.obj, .int .i64 v.cell.kind, .int .i64 v.cell.n, .string v.cell.text]) (t := 39) (fr := (0, 0)) (heap_alloc_new wr _)) onev (by omega) hA1 hA2 hA3 (wr.heap.size + 1) (World.size_alloc _ _) ?_
                         intro g4 cap4 w8 hown8 hgrow8 hat8 hlt8)
            go_roundw
            case rel =>
              refine ⟨j + 1, by have := HNN.out; omega, by congr 1; push_cast; omega, ?_⟩
              rw [HNX.out, List.map_append, List.map_singleton, HVV.out]
              have e := HMM.out
              subst e
              exact Lib.hid (HG.out.push (below_one wr _) hgrow8 hown8)
            case measure => simp [intOf]; omega
          · obtain rfl : j = ps2.length := by omega
            have e : ps2.reverse.take ps2.length = ps2.reverse := List.take_of_length_le (by simp)
            rw [e] at hG
            have e7 : decide ((0 : Int) ≤ (ps2.length : Int) - 1 - (ps2.length : Int)) = false := decide_eq_false (by omega)
            have e8 : ¬ (0 : Int) ≤ (ps2.length : Int) - 1 - (ps2.length : Int) := by omega
            clear hlt hj
            go_wp2
            go_roundw
            case rel => exact ⟨T ++ [c2], s0 ++ ps2.reverse, hG, HN2⟩
            case measure => simp [sliceLen]; omega
end Go.Proofs.YtejcbpbhhofhlaaDoor.Tm
