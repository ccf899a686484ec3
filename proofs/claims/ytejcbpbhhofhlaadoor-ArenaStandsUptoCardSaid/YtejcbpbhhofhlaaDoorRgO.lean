/- Layer 3's law: step, by kinds. -/
import Derived.Test.YtejcbpbhhofhlaaDoorRgN
namespace Go.Proofs.YtejcbpbhhofhlaaDoor.Tm
open Go.RowKit
set_option linter.unusedVariables false
set_option linter.unusedSimpArgs false

/-- What a call's answers must be, of both. -/
structure MadeNow (L L' : List ObjA) (X E : Int) (v : ValR) : Prop where
  ext : Ext L L'
  cells : ∀ o ∈ L', WfC o.cell
  rng : 0 ≤ X ∧ X < 18446744073709551616
  bad : E ≠ 0 → X = 0
  ok : E = 0 → (findA L' X).isSome = true ∧ v = valR L' X
theorem put_now {room : Nat} {L : List ObjA} {t : List CellD} (hw : WfA L) (hc : ∀ o ∈ L, WfC o.cell) (hr : room ≤ 262144) (hu : usedA L ≤ room) (ht : ∀ c ∈ t, WfC c) : MadeNow L (putL room L t) (putX room L t) (putE room L t) (rputV room (refOf L) t) := by
  have B := both_put (t := t) hw hr hu
  have bad : putE room L t ≠ 0 → putX room L t = 0 := fun h => by unfold putX; rw [if_neg h]
  refine ⟨B.ext, B.cells hc ht, ?_, bad, fun h => ?_⟩
  · by_cases h : putE room L t = 0
    · exact (B.ok h).1.2
    · rw [bad h]; omega
  · refine ⟨(B.ok h).1.1, ?_⟩
    have e1 : putL room L t = (putF L t).1 := by unfold putL; rw [if_pos h]
    have e2 : putX room L t = (putF L t).2.2 := by unfold putX; rw [if_pos h]
    have e3 : rputV room (refOf L) t = (layR t.length (refOf L) t).2 := by unfold rputV; rw [B.e, if_pos h]
    have h0 : (rightE t).1 = 0 := by
      unfold putE at h
      split at h
      · exact h
      · rename_i h'; simpa using h'
    obtain ⟨hg, hl0, hl1⟩ := rightE_ok h0
    have hf : ¬ (room : Int) - (usedA L : Int) < (totalA t : Int) := by
      unfold putE at h
      rw [if_neg (by simp [h0])] at h
      intro hc
      rw [if_pos hc] at h
      omega
    have T := putF_term (Nat.le_refl _) hg L
    have Lq := lay_put t.length t (Nat.le_refl _) hg L hw (by omega)
    rw [e1, e2, e3, Lq, T]
theorem leaf_now {room : Nat} {L : List ObjA} {c : CellD} (hw : WfA L) (hcl : ∀ o ∈ L, WfC o.cell) (hr : room ≤ 262144) (hu : usedA L ≤ room) (hc : WfC c) :
    rleafE room (refOf L) c = leafE room L c ∧ rleafL room (refOf L) c = refOf (leafL room L c) ∧ MadeNow L (leafL room L c) (leafX room L c) (leafE room L c) (rleafV room (refOf L) c) := by
  have e : rleafE room (refOf L) c = leafE room L c := by
    unfold rleafE leafE usedR
    rw [usedR_ref]
  by_cases h : leafE room L c = 0
  · have a1 : leafL room L c = (makeA L c []).1 := by unfold leafL; rw [if_pos h]
    have a2 : leafX room L c = (makeA L c []).2 := by unfold leafX; rw [if_pos h]
    have a3 : rleafL room (refOf L) c = (leafR (refOf L) c).1 := by unfold rleafL; rw [e, if_pos h]
    have a4 : rleafV room (refOf L) c = (leafR (refOf L) c).2 := by unfold rleafV; rw [e, if_pos h]
    have h' := h
    unfold leafE at h'
    by_cases k7 : c.kind = 7 ∨ (c.kind = 5 ∧ 0 < c.n)
    · rw [if_pos k7] at h'; omega
    rw [if_neg k7] at h'
    by_cases kc : cellE c = 0
    · rw [if_neg (by simp [kc])] at h'
      have hf : ¬ (room : Int) - (usedA L : Int) < (costC c : Int) := fun hc => by rw [if_pos hc] at h'; omega
      have hk := leaf_kids k7
      have hm := make_ref_leaf hw kc hk (by omega)
      have hfd := make_find (parts := []) hw kc (by omega)
      rw [hm] at a3 a4
      refine ⟨e, by rw [a3, a1], ?_, ?_, ?_, fun hn => absurd h hn, fun _ => ?_⟩
      · rw [a1]; exact makeA_ext L c []
      · rw [a1]; exact make_cells hcl hc
      · rw [a2]; exact hfd.2
      · rw [a1, a2, a4]; exact ⟨hfd.1, rfl⟩
    · rw [if_pos kc] at h'
      exact absurd h' kc
  · have a1 : leafL room L c = L := by unfold leafL; rw [if_neg h]
    have a2 : leafX room L c = 0 := by unfold leafX; rw [if_neg h]
    have a3 : rleafL room (refOf L) c = refOf L := by unfold rleafL; rw [e, if_neg h]
    exact ⟨e, by rw [a3, a1], by rw [a1]; exact Ext.refl L, by rw [a1]; exact hcl, by rw [a2]; omega, fun _ => a2, fun hn => absurd hn h⟩
def StepAny (w w' : World) (O OR : Nat → Prop) (ba ra room : Nat) (L : List ObjA) (k : Int) : Prop :=
  ∃ L' O' OR', Lag w w' O OR O' OR' ba ra room L' (refOf L') ∧ (k ≠ 4 → Ext L L') ∧ ∀ o ∈ L', WfC o.cell
theorem StepTo.any {w w' : World} {O OR : Nat → Prop} {ba ra room : Nat} {L : List ObjA} (h : StepTo w w' O OR ba ra room L) (k : Int) : StepAny w w' O OR ba ra room L k := by
  obtain ⟨L', O', OR', h1, h2, h3⟩ := h
  exact ⟨L', O', OR', h1, fun _ => h2, h3⟩
theorem made_fin {w wz : World} {O OR O2 OR2 : Nat → Prop} {ba ra room : Nat} {L L' : List ObjA} {X E : Int} {v : ValR} (h : Lag w wz O OR O2 OR2 ba ra room L' (refOf L')) (hm : MadeNow L L' X E v) :
    Calls Tryd.prog 42 #[.pointer (some ⟨ba, 0, none⟩), .pointer (some ⟨ra, 0, none⟩), .int .i64 (L.length : Int), .int .u64 X, .int .i64 E, .agg #[.int .i64 v.obj, .int .i64 v.cell.kind, .int .i64 v.cell.n, .string v.cell.text], .int .i64 E] wz fun e w' => e = .returned (.bool true) ∧ StepTo w w' O OR ba ra room L :=
  made_step h hm.ext hm.cells X E v hm.rng hm.bad hm.ok
/-- An Op that came in. -/
structure OpIn (w : World) (O OR : Nat → Prop) (T : List CellD) (ps : List PickD) (AT AP : Option Addr) (cT cP : Nat) : Prop where
  rT : Reads w AT T
  rP : PReads w AP ps
  wf : ∀ c ∈ T, WfC c
  ok : ∀ p ∈ ps, p.ok
  lT : T.length ≤ 1048576
  lP : ps.length ≤ 1000000
  cT : T.length ≤ cT
  cP : ps.length ≤ cP
  nO : T.length ≠ 0 → ∀ g o, AT = some ⟨g, o, none⟩ → ¬ O g ∧ ¬ OR g
theorem Reads.fr0 {O : Nat → Prop} {a b : World} {A : Option Addr} {l : List CellD} (h : Reads a A l) (hf : Fr O a b) (hn : l.length ≠ 0 → ∀ g o, A = some ⟨g, o, none⟩ → ¬ O g) : Reads b A l := fun j hj => (h.fr hf (hn (by omega))) j hj
theorem BlkIs.fr {O : Nat → Prop} {a b : World} {k : Nat} {cs : Array Value} {t : TypeId} (h : BlkIs a k cs t) (hf : Fr O a b) (hn : ¬ O k) : BlkIs b k cs t := (hf.block k h.lt hn).trans h
theorem rmade_fr {w w' : World} {O X : Nat → Prop} {ra cells : Nat} {rs : List ObjR} (h : RMade w w' O X ra cells rs) : Fr O w w' := by
  obtain ⟨_, _, _, _, hf⟩ := h
  exact hf
set_option maxRecDepth 10000 in
set_option maxHeartbeats 4000000 in
theorem step_put (w : World) (O OR : Nat → Prop) (ba ra room : Nat) (L : List ObjA) (T : List CellD) (ps : List PickD) (AT AP : Option Addr) (cT cP : Nat) (N : Int) (hb : Both w O OR ba ra room L) (hT : TabsA w) (ho : OpIn w O OR T ps AT AP cT cP) :
    Calls Tryd.prog 21 #[.pointer (some ⟨ba, 0, none⟩), .pointer (some ⟨ra, 0, none⟩), .agg #[.int .i64 0, .slice AT T.length cT, .slice AP ps.length cP, .int .i64 N]] w fun e w' => e = .returned (.bool true) ∧ StepAny w w' O OR ba ra room L 0 := by
  have hlims := hb.ar.lims
  have hll := hb.ar.wf.len
  have hB0 := below_one w (.cells #[.int .i64 0, .slice AT T.length cT, .slice AP ps.length cP, .int .i64 N] 59)
  have BO : BlkIs (w.alloc (.cells #[.int .i64 0, .slice AT T.length cT, .slice AP ps.length cP, .int .i64 N] 59)) w.heap.size #[.int .i64 0, .slice AT T.length cT, .slice AP ps.length cP, .int .i64 N] 59 := heap_new w _
  have hall := all_any _ O ba room L (hb.ar.below hB0)
  rw [wordsA_len] at hall
  have HB := Lib.hid hb
  have HT := Lib.hid hT
  have HO := Lib.hid ho
  have HB0 := Lib.hid hB0
  have HBO := Lib.hid BO
  have hlT := ho.lT
  clear hb hT ho hB0 BO
  go_enter Tryd.func21, Tryd.ntmps21
  go_wp2_with fail
  refine hall.mono ?_
  rintro e w1 ⟨A1, c1, rfl, hrow, hb1⟩
  have B1 := HBO.out.below hb1
  have o0 := B1.cell 0 (v := .int .i64 0) rfl
  have o1 := B1.cell 1 (v := .slice AT T.length cT) rfl
  have hB1 := below_then HB0.out hb1
  have HB1 := Lib.hid hB1
  have HBO1 := Lib.hid B1
  have hln := lent_any T AT cT w1 (HO.out.rT.below hB1) (by omega)
  clear hall hrow hb1 B1 hB1
  go_wp2_with fail
  refine hln.mono ?_
  rintro e w2 ⟨A2, c2, rfl, hLn, hb2⟩
  have hB2 := below_then HB1.out hb2
  have hput := put_any w2 O ba room L T A2 c2 (HB.out.ar.below hB2) (HT.out.below hB2) hLn.reads (fun h0 g q e hg => by
    have h1 := (HB.out.ar.lim g hg).2
    have h2 := row_base hLn.row g (by rw [e]; rfl)
    have := HB1.out.size
    omega) (fun j hj => HO.out.wf _ (List.getElem_mem hj)) (by omega)
  have HPN := Lib.hid (put_now (room := room) (t := T) HB.out.ar.wf HB.out.cells hlims.1 hlims.2 HO.out.wf)
  have HBP := Lib.hid (both_put (room := room) (l := L) (t := T) HB.out.ar.wf hlims.1 hlims.2)
  have hrp := fun W (hR : RfAt W OR ra room (refOf L)) (hr : Reads W AT T) => rput_any W OR ra room (refOf L) T AT cT hR (ref_cells HB.out.ar.wf HB.out.cells) (by rw [refOf_len]; omega) (by unfold usedR; rw [usedR_ref]; omega) (by omega) hr HO.out.cT (fun h0 g q e => (HO.out.nO h0 g q e).2) (fun j hj => HO.out.wf _ (List.getElem_mem hj)) (by omega)
  rw [HBP.out.e, HBP.out.r] at hrp
  obtain ⟨E, hE⟩ : ∃ E, putE room L T = E := ⟨_, rfl⟩
  obtain ⟨X, hX⟩ : ∃ X, putX room L T = X := ⟨_, rfl⟩
  obtain ⟨L1, hL1⟩ : ∃ L1, putL room L T = L1 := ⟨_, rfl⟩
  obtain ⟨v, hv⟩ : ∃ v, rputV room (refOf L) T = v := ⟨_, rfl⟩
  rw [hE, hX, hL1] at hput
  rw [hE, hL1, hv] at hrp
  have hpn := HPN.out
  rw [hE, hX, hL1, hv] at hpn
  have HP2 := Lib.hid hpn
  unfold ValR.agg at hrp
  have HLN := Lib.hid hLn
  have HB2 := Lib.hid hB2
  have o1' := cell_below hb2 o1
  have HBO2 := Lib.hid (HBO1.out.below hb2)
  clear hpn hE hX hL1 hv hLn hb2 hB2 hln o1 o0 HBP HPN
  go_wp2_with fail
  refine hput.mono ?_
  rintro e w3 ⟨rfl, hM⟩
  have hF3 := made_fr hM
  have hoO : ¬ O w.heap.size := fun h => by have := (HB.out.ar.lim _ h).2; omega
  have hoR : ¬ OR w.heap.size := fun h => by have := (HB.out.rf.lim _ h).2; omega
  have hrT3 := ((HO.out.rT.below HB2.out)).fr0 hF3 (fun h0 g q e => (HO.out.nO h0 g q e).1)
  have hrp3 := hrp w3 (HB.out.rf.below HB2.out |>.fr hF3 (fun k hk h => HB.out.oo k h hk)) hrT3
  have B3 := HBO2.out.fr hF3 hoO
  have o13 := B3.cell 1 (v := .slice AT T.length cT) rfl
  have hlr3 := row_fr HLN.out.row hF3 (fun b hb h => by have := (HB.out.ar.lim _ h).2; have := row_base HLN.out.row b hb; have := HB1.out.size; omega)
  obtain ⟨O2, hL1⟩ := (HB.out.lag HB2.out).made hM
  have HL1 := Lib.hid hL1
  have HB3 := Lib.hid B3
  have HRT3 := Lib.hid hrT3
  have HLR3 := Lib.hid hlr3
  clear hM hF3 hL1 B3 hrT3 hput hrp hlr3 o1'
  go_wp2_with fail
  refine hrp3.mono ?_
  rintro e w4 ⟨rfl, hRm⟩
  have hF4 := rmade_fr hRm
  have hBa := below_one w4 (.cells #[.int .i64 v.obj, .int .i64 v.cell.kind, .int .i64 v.cell.n, .string v.cell.text] 39)
  have hrT4 := (HRT3.out.fr0 hF4 (fun h0 g q e => (HO.out.nO h0 g q e).2)).below hBa
  have B4 := (HB3.out.fr hF4 hoR).below hBa
  have o14 := B4.cell 1 (v := .slice AT T.length cT) rfl
  have hlr4 : LentAt (w4.alloc (.cells #[.int .i64 v.obj, .int .i64 v.cell.kind, .int .i64 v.cell.n, .string v.cell.text] 39)) w1.heap.size A2 c2 T := ⟨row_below (row_fr HLR3.out hF4 (fun b hb h => by have := (HB.out.rf.lim _ h).2; have := row_base HLR3.out b hb; have := HB1.out.size; omega)) hBa⟩
  have hkp := kept_any T A2 AT w1.heap.size c2 cT _ hlr4 hrT4 (by omega)
  have BV : BlkIs (w4.alloc (.cells #[.int .i64 v.obj, .int .i64 v.cell.kind, .int .i64 v.cell.n, .string v.cell.text] 39)) w4.heap.size #[.int .i64 v.obj, .int .i64 v.cell.kind, .int .i64 v.cell.n, .string v.cell.text] 39 := heap_new w4 _
  obtain ⟨OR2, hL2⟩ := HL1.out.rmade hRm
  have HL2 := Lib.hid (hL2.below hBa)
  clear hL2 hRm hF4 hrT4 B4 hlr4 o13 hrp3
  go_wp2_with fail
  refine hkp.mono ?_
  rintro e w5 ⟨rfl, hb5⟩
  have B5 := BV.below hb5
  have m0 := B5.cell 0 (v := .int .i64 v.obj) rfl
  have m1 := B5.cell 1 (v := .int .i64 v.cell.kind) rfl
  have m2 := B5.cell 2 (v := .int .i64 v.cell.n) rfl
  have m3 := B5.cell 3 (v := .string v.cell.text) rfl
  have hmd := made_fin (HL2.out.below hb5) HP2.out
  clear BV B5 hb5 hkp o14
  go_wp2_with fail
  refine hmd.mono ?_
  rintro e w8 ⟨rfl, hst⟩
  go_wp2
  go_ret
  exact ⟨rfl, hst.any 0⟩
set_option maxRecDepth 10000 in
set_option maxHeartbeats 4000000 in
theorem step_leaf (w : World) (O OR : Nat → Prop) (ba ra room : Nat) (L : List ObjA) (T : List CellD) (ps : List PickD) (AT AP : Option Addr) (cT cP : Nat) (N : Int) (hb : Both w O OR ba ra room L) (hT : TabsA w) (ho : OpIn w O OR T ps AT AP cT cP) :
    Calls Tryd.prog 21 #[.pointer (some ⟨ba, 0, none⟩), .pointer (some ⟨ra, 0, none⟩), .agg #[.int .i64 1, .slice AT T.length cT, .slice AP ps.length cP, .int .i64 N]] w fun e w' => e = .returned (.bool true) ∧ StepAny w w' O OR ba ra room L 1 := by
  have hlims := hb.ar.lims
  have hll := hb.ar.wf.len
  have hB0 := below_one w (.cells #[.int .i64 1, .slice AT T.length cT, .slice AP ps.length cP, .int .i64 N] 59)
  have BO : BlkIs (w.alloc (.cells #[.int .i64 1, .slice AT T.length cT, .slice AP ps.length cP, .int .i64 N] 59)) w.heap.size #[.int .i64 1, .slice AT T.length cT, .slice AP ps.length cP, .int .i64 N] 59 := heap_new w _
  have hall := all_any _ O ba room L (hb.ar.below hB0)
  rw [wordsA_len] at hall
  have HB := Lib.hid hb
  have HT := Lib.hid hT
  have HO := Lib.hid ho
  have HB0 := Lib.hid hB0
  have HBO := Lib.hid BO
  have hlT := ho.lT
  have hcT := ho.cT
  clear hb hT ho hB0 BO
  go_enter Tryd.func21, Tryd.ntmps21
  go_wp2_with fail
  refine hall.mono ?_
  rintro e w1 ⟨A1, c1, rfl, hrow, hb1⟩
  have hB1 := below_then HB0.out hb1
  have HB1 := Lib.hid hB1
  have HBO1 := Lib.hid (HBO.out.below hb1)
  have hBc := below_one w1 (.cells #[.int .i64 0, .int .i64 0, .string ⟨#[]⟩] 37)
  have BC : BlkIs (w1.alloc (.cells #[.int .i64 0, .int .i64 0, .string ⟨#[]⟩] 37)) w1.heap.size #[.int .i64 0, .int .i64 0, .string ⟨#[]⟩] 37 := heap_new w1 _
  have q0 := HBO1.out.cell 0 (v := .int .i64 1) rfl
  have B1 := HBO1.out.below hBc
  have o0 := B1.cell 0 (v := .int .i64 1) rfl
  have o1 := B1.cell 1 (v := .slice AT T.length cT) rfl
  have hr1 := (HO.out.rT.below hB1).below hBc
  obtain ⟨c, hc⟩ : ∃ c, T.headD zeroR = c := ⟨_, rfl⟩
  have hcw : WfC c := by
    rw [← hc]
    cases hT : T with
    | nil => exact ⟨by decide, by decide, by decide⟩
    | cons a r => exact HO.out.wf a (by rw [hT]; simp)
  have HC := Lib.hid hc
  have HCW := Lib.hid hcw
  clear hall hrow hb1 B1 hB1 hc hcw
  go_upto_if 63 with (fail)
  go_cut [] (fun wx => Hid (Below w1.heap.size w1 wx) ∧ Hid (BlkIs wx w1.heap.size #[.int .i64 c.kind, .int .i64 c.n, .string c.text] 37))
  case first =>
    by_cases h0 : T.length = 0
    · have e : c = zeroR := by
        rw [← HC.out, List.eq_nil_of_length_eq_zero h0]
        rfl
      have hb0 : decide ((0 : Int) < (T.length : Int)) = false := decide_eq_false (by omega)
      have hnl : ¬ 0 < T.length := by omega
      clear h0
      go_wp2_with fail
      go_meet
      rw [e]
      exact ⟨Lib.hid hBc, Lib.hid BC⟩
    · have hb0 : decide ((0 : Int) < (T.length : Int)) = true := decide_eq_true (by omega)
      have hnl : 0 < T.length := by omega
      obtain ⟨g, o, hA, d0, d1, d2⟩ := hr1 0 hnl
      have e : T[0] = c := by
        rw [← HC.out]
        cases T with
        | nil => simp at hnl
        | cons a r => rfl
      rw [e] at d0 d1 d2
      rw [Nat.zero_mul, Nat.add_zero] at d0 d1 d2
      subst hA
      have f0 := BC.frozen 0
      have f1 := BC.frozen 1
      have f2 := BC.frozen 2
      have z0 := BC.cell 0 (v := .int .i64 0) rfl
      have z1 := BC.cell 1 (v := .int .i64 0) rfl
      have z2 := BC.cell 2 (v := .string ⟨#[]⟩) rfl
      have HBC := Lib.hid BC
      have HBc := Lib.hid hBc
      clear h0 hr1 e BC hBc
      go_wp2_with fail
      go_meet
      exact ⟨Lib.hid (below_one w1 _), Lib.hid (heap_new w1 _)⟩
  case rest =>
    obtain ⟨w2, hw2⟩ : ∃ W, W = wc := ⟨_, rfl⟩
    subst hw2
    obtain ⟨hBx, hBX⟩ := hcut
    clear o0 o1 q0 hBc BC hr1
    have hB2 := below_then HB1.out hBx.out
    have HB2 := Lib.hid hB2
    have d0 := hBX.out.cell 0 (v := .int .i64 c.kind) rfl
    have d1 := hBX.out.cell 1 (v := .int .i64 c.n) rfl
    have d2 := hBX.out.cell 2 (v := .string c.text) rfl
    have hle := leaf_any w2 O ba room L c (HB.out.ar.below hB2) (HT.out.below hB2) HCW.out
    have hrl := fun W (hR : RfAt W OR ra room (refOf L)) => rleaf2_any W OR ra room (refOf L) c hR (ref_cells HB.out.ar.wf HB.out.cells) (by rw [refOf_len]; omega) (by unfold usedR; rw [usedR_ref]; omega) (by omega) HCW.out
    obtain ⟨k1, k2, k3⟩ := leaf_now (room := room) (c := c) HB.out.ar.wf HB.out.cells hlims.1 hlims.2 HCW.out
    rw [k1, k2] at hrl
    obtain ⟨E, hE⟩ : ∃ E, leafE room L c = E := ⟨_, rfl⟩
    obtain ⟨X, hX⟩ : ∃ X, leafX room L c = X := ⟨_, rfl⟩
    obtain ⟨L1, hL1⟩ : ∃ L1, leafL room L c = L1 := ⟨_, rfl⟩
    obtain ⟨v, hv⟩ : ∃ v, rleafV room (refOf L) c = v := ⟨_, rfl⟩
    rw [hE, hX, hL1] at hle
    rw [hE, hL1, hv] at hrl
    rw [hE, hX, hL1, hv] at k3
    unfold ValR.agg at hrl
    have HK := Lib.hid k3
    have hs1 := HB1.out.size
    have hoO : ¬ O w1.heap.size := fun h => by have := (HB.out.ar.lim _ h).2; omega
    have hoR : ¬ OR w1.heap.size := fun h => by have := (HB.out.rf.lim _ h).2; omega
    clear hE hX hL1 hv k1 k2 k3 hB2
    go_wp2_with fail
    refine hle.mono ?_
    rintro e w3 ⟨rfl, hM⟩
    have hF3 := made_fr hM
    have hrl3 := hrl w3 (HB.out.rf.below HB2.out |>.fr hF3 (fun k hk h => HB.out.oo k h hk))
    have B3 := hBX.out.fr hF3 hoO
    have e0 := B3.cell 0 (v := .int .i64 c.kind) rfl
    have e1 := B3.cell 1 (v := .int .i64 c.n) rfl
    have e2 := B3.cell 2 (v := .string c.text) rfl
    obtain ⟨O2, hL1⟩ := (HB.out.lag HB2.out).made hM
    have HL1 := Lib.hid hL1
    clear hM hF3 hL1 B3 hle hrl d0 d1 d2
    go_wp2_with fail
    refine hrl3.mono ?_
    rintro e w4 ⟨rfl, hRm⟩
    have hBa := below_one w4 (.cells #[.int .i64 v.obj, .int .i64 v.cell.kind, .int .i64 v.cell.n, .string v.cell.text] 39)
    obtain ⟨OR2, hL2⟩ := HL1.out.rmade hRm
    have hmd := made_fin (hL2.below hBa) HK.out
    clear hL2 hRm hrl3 e0 e1 e2
    go_wp2_with fail
    refine hmd.mono ?_
    rintro e w8 ⟨rfl, hst⟩
    go_wp2
    go_ret
    exact ⟨rfl, hst.any 1⟩
theorem Lag.pre {w w1 w' : World} {O OR O' OR' : Nat → Prop} {ba ra room : Nat} {L : List ObjA} {R : List ObjR} (hB : Below w.heap.size w w1) (h : Lag w1 w' O OR O' OR' ba ra room L R) : Lag w w' O OR O' OR' ba ra room L R :=
  ⟨h.ar, h.rf, h.oo, h.a1, fun k hk => (h.a2 k hk).imp id (fun e => by have := hB.size; omega), h.b1, fun k hk => (h.b2 k hk).imp id (fun e => by have := hB.size; omega), (Fr.of_below hB).trans h.fr⟩
theorem StepTo.pre {w w1 w' : World} {O OR : Nat → Prop} {ba ra room : Nat} {L : List ObjA} (hB : Below w.heap.size w w1) (h : StepTo w1 w' O OR ba ra room L) : StepTo w w' O OR ba ra room L := by
  obtain ⟨L', O', OR', h1, h2⟩ := h
  exact ⟨L', O', OR', h1.pre hB, h2⟩
theorem Both.below {w w' : World} {O OR : Nat → Prop} {ba ra room : Nat} {L : List ObjA} (h : Both w O OR ba ra room L) (hB : Below w.heap.size w w') : Both w' O OR ba ra room L := ⟨h.ar.below hB, h.rf.below hB, h.oo, h.cells⟩
set_option maxRecDepth 10000 in
set_option maxHeartbeats 4000000 in
theorem step_held (w : World) (O OR : Nat → Prop) (ba ra room : Nat) (L : List ObjA) (T : List CellD) (ps : List PickD) (AT AP : Option Addr) (cT cP : Nat) (N k : Int) (hb : Both w O OR ba ra room L) (hT : TabsA w) (ho : OpIn w O OR T ps AT AP cT cP) (hk : k = 2 ∨ k = 3) :
    Calls Tryd.prog 21 #[.pointer (some ⟨ba, 0, none⟩), .pointer (some ⟨ra, 0, none⟩), .agg #[.int .i64 k, .slice AT T.length cT, .slice AP ps.length cP, .int .i64 N]] w fun e w' => e = .returned (.bool true) ∧ StepAny w w' O OR ba ra room L k := by
  have hlims := hb.ar.lims
  have hll := hb.ar.wf.len
  have hB0 := below_one w (.cells #[.int .i64 k, .slice AT T.length cT, .slice AP ps.length cP, .int .i64 N] 59)
  have BO : BlkIs (w.alloc (.cells #[.int .i64 k, .slice AT T.length cT, .slice AP ps.length cP, .int .i64 N] 59)) w.heap.size #[.int .i64 k, .slice AT T.length cT, .slice AP ps.length cP, .int .i64 N] 59 := heap_new w _
  have hall := all_any _ O ba room L (hb.ar.below hB0)
  rw [wordsA_len] at hall
  have HB := Lib.hid hb
  have HT := Lib.hid hT
  have HO := Lib.hid ho
  have HB0 := Lib.hid hB0
  have HBO := Lib.hid BO
  have hlT := ho.lT
  have hcT := ho.cT
  have hlP := ho.lP
  have hcP := ho.cP
  clear hb hT ho hB0 BO
  have j0 : (k == 0) = false := by rcases hk with rfl | rfl <;> rfl
  have j1 : (k == 1) = false := by rcases hk with rfl | rfl <;> rfl
  have j2 : (k == 2) = true ∨ ((k == 2) = false ∧ (k == 3) = true) := by rcases hk with rfl | rfl <;> simp
  clear hk
  rcases j2 with j2 | ⟨j2, j3⟩
  all_goals
    go_enter Tryd.func21, Tryd.ntmps21
    go_wp2_with fail
    refine hall.mono ?_
    rintro e w1 ⟨A1, c1, rfl, hrow, hb1⟩
    have hB1 := below_then HB0.out hb1
    have B1 := HBO.out.below hb1
    have o0 := B1.cell 0 (v := .int .i64 k) rfl
    have o1 := B1.cell 1 (v := .slice AT T.length cT) rfl
    have o2 := B1.cell 2 (v := .slice AP ps.length cP) rfl
    have o3 := B1.cell 3 (v := .int .i64 N) rfl
    have hrow' := hrow
    rw [← wordsA_len 0 L] at hrow'
    have hst := held_true w1 O OR ba ra room L A1 AT AP c1 T.length cT cP k N ps (HB.out.below hB1) (HT.out.below hB1) (WReads.of_row hrow') (HO.out.rP.below hB1) hlP hcP HO.out.ok
    have HB1 := Lib.hid hB1
    clear hall hrow hrow' hb1 B1 hB1
    go_wp2_with fail
    refine hst.mono ?_
    rintro e w2 ⟨rfl, h2⟩
    go_wp2
    go_ret
    exact ⟨rfl, (h2.pre HB1.out).any k⟩
theorem rclear {w : World} {O : Nat → Prop} {ra cells : Nat} {rs : List ObjR} (h : RfAt w O ra cells rs) : ∃ vO, BlkIs w ra #[.int .i64 (cells : Int), vO] 29 ∧ RMade w (w.setCell ⟨ra, 1, none⟩ (.slice none 0 0)) O NoX ra cells [] := by
  obtain ⟨vO, pv, h⟩ := h
  refine ⟨vO, h.blk, O, ⟨.slice none 0 0, [], ?_, row_nil _ _ _ _, rfl, fun i hi => absurd hi (Nat.not_lt_zero i), h.ora, fun k hk => by simp [Value.ownBlock] at hk, fun k hk => ⟨(h.lim k hk).1, by have := (h.lim k hk).2; simpa [World.setCell] using this⟩⟩, fun k hk => hk, fun k hk => .inl hk, ?_⟩
  · have := BlkIs.set (b := ra) (w := w) (cs := #[.int .i64 (cells : Int), vO]) (t := 29) h.blk 1 (.slice none 0 0)
    simpa [BlkIs] using this
  · exact (fr_set (Fr.refl (fun k => k = ra) w) rfl 1 (.slice none 0 0)).mono (fun i _ e => e ▸ h.ora)
set_option maxRecDepth 10000 in
set_option maxHeartbeats 4000000 in
theorem step_clear (w : World) (O OR : Nat → Prop) (ba ra room : Nat) (L : List ObjA) (T : List CellD) (ps : List PickD) (AT AP : Option Addr) (cT cP : Nat) (N : Int) (hb : Both w O OR ba ra room L) (hT : TabsA w) (ho : OpIn w O OR T ps AT AP cT cP) :
    Calls Tryd.prog 21 #[.pointer (some ⟨ba, 0, none⟩), .pointer (some ⟨ra, 0, none⟩), .agg #[.int .i64 4, .slice AT T.length cT, .slice AP ps.length cP, .int .i64 N]] w fun e w' => e = .returned (.bool true) ∧ StepAny w w' O OR ba ra room L 4 := by
  have hlims := hb.ar.lims
  have hll := hb.ar.wf.len
  have hB0 := below_one w (.cells #[.int .i64 4, .slice AT T.length cT, .slice AP ps.length cP, .int .i64 N] 59)
  have BO : BlkIs (w.alloc (.cells #[.int .i64 4, .slice AT T.length cT, .slice AP ps.length cP, .int .i64 N] 59)) w.heap.size #[.int .i64 4, .slice AT T.length cT, .slice AP ps.length cP, .int .i64 N] 59 := heap_new w _
  have hall := all_any _ O ba room L (hb.ar.below hB0)
  rw [wordsA_len] at hall
  have HB := Lib.hid hb
  have HT := Lib.hid hT
  have HO := Lib.hid ho
  have HB0 := Lib.hid hB0
  have HBO := Lib.hid BO
  have hlT := ho.lT
  have hcT := ho.cT
  have hlP := ho.lP
  have hcP := ho.cP
  clear hb hT ho hB0 BO
  go_enter Tryd.func21, Tryd.ntmps21
  go_wp2_with fail
  refine hall.mono ?_
  rintro e w1 ⟨A1, c1, rfl, hrow, hb1⟩
  have hB1 := below_then HB0.out hb1
  have B1 := HBO.out.below hb1
  have o0 := B1.cell 0 (v := .int .i64 4) rfl
  have hcl := clear_any w1 O ba room L (HB.out.ar.below hB1)
  have HB1 := Lib.hid hB1
  clear hall hrow hb1 B1 hB1
  go_wp2_with fail
  refine hcl.mono ?_
  rintro e w2 ⟨⟨v, rfl⟩, hM⟩
  have hF := made_fr hM
  obtain ⟨O2, hL1⟩ := (HB.out.lag HB1.out).made hM
  obtain ⟨vO, hBl, hRm⟩ := rclear hL1.rf
  obtain ⟨OR2, hL2⟩ := hL1.rmade hRm
  have r0 := hBl.cell 1 (v := vO) rfl
  have f0 := hBl.frozen 1
  have hal := all_any _ O2 ba room [] hL2.ar
  have HL2 := Lib.hid hL2
  clear hL2 hL1 hRm hF hM hcl
  go_wp2_with fail
  refine hal.mono ?_
  rintro e w3 ⟨A3, c3, rfl, hrow3, hb3⟩
  go_wp2
  go_ret
  exact ⟨rfl, [], O2, OR2, HL2.out.below hb3, fun e => absurd rfl e, fun o ho => (by cases ho)⟩
set_option maxRecDepth 10000 in
set_option maxHeartbeats 4000000 in
theorem step_ask (w : World) (O OR : Nat → Prop) (ba ra room : Nat) (L : List ObjA) (T : List CellD) (ps : List PickD) (AT AP : Option Addr) (cT cP : Nat) (N k : Int) (hb : Both w O OR ba ra room L) (hT : TabsA w) (ho : OpIn w O OR T ps AT AP cT cP) (hk : k ≠ 0 ∧ k ≠ 1 ∧ k ≠ 2 ∧ k ≠ 3 ∧ k ≠ 4) :
    Calls Tryd.prog 21 #[.pointer (some ⟨ba, 0, none⟩), .pointer (some ⟨ra, 0, none⟩), .agg #[.int .i64 k, .slice AT T.length cT, .slice AP ps.length cP, .int .i64 N]] w fun e w' => e = .returned (.bool true) ∧ StepAny w w' O OR ba ra room L k := by
  have hlims := hb.ar.lims
  have hll := hb.ar.wf.len
  have hB0 := below_one w (.cells #[.int .i64 k, .slice AT T.length cT, .slice AP ps.length cP, .int .i64 N] 59)
  have BO : BlkIs (w.alloc (.cells #[.int .i64 k, .slice AT T.length cT, .slice AP ps.length cP, .int .i64 N] 59)) w.heap.size #[.int .i64 k, .slice AT T.length cT, .slice AP ps.length cP, .int .i64 N] 59 := heap_new w _
  have hall := all_any _ O ba room L (hb.ar.below hB0)
  rw [wordsA_len] at hall
  have HB := Lib.hid hb
  have HT := Lib.hid hT
  have HO := Lib.hid ho
  have HB0 := Lib.hid hB0
  have HBO := Lib.hid BO
  have hlT := ho.lT
  have hcT := ho.cT
  have hlP := ho.lP
  have hcP := ho.cP
  clear hb hT ho hB0 BO
  have j0 : (k == 0) = false := beq_eq_false_iff_ne.2 hk.1
  have j1 : (k == 1) = false := beq_eq_false_iff_ne.2 hk.2.1
  have j2 : (k == 2) = false := beq_eq_false_iff_ne.2 hk.2.2.1
  have j3 : (k == 3) = false := beq_eq_false_iff_ne.2 hk.2.2.2.1
  have j4 : (k == 4) = false := beq_eq_false_iff_ne.2 hk.2.2.2.2
  clear hk
  go_enter Tryd.func21, Tryd.ntmps21
  go_wp2_with fail
  refine hall.mono ?_
  rintro e w1 ⟨A1, c1, rfl, hrow, hb1⟩
  have hB1 := below_then HB0.out hb1
  have HB1 := Lib.hid hB1
  have HBO1 := Lib.hid (HBO.out.below hb1)
  have hBc := below_one w1 (.cells #[.bool false, .int .i64 0, .int .u64 0] 94)
  have BC : BlkIs (w1.alloc (.cells #[.bool false, .int .i64 0, .int .u64 0] 94)) w1.heap.size #[.bool false, .int .i64 0, .int .u64 0] 94 := heap_new w1 _
  have q0 := HBO1.out.cell 0 (v := .int .i64 k) rfl
  have B1 := HBO1.out.below hBc
  have o0 := B1.cell 0 (v := .int .i64 k) rfl
  have o2 := B1.cell 2 (v := .slice AP ps.length cP) rfl
  have hr1 := (HO.out.rP.below hB1).below hBc
  have hrow' := hrow
  rw [← wordsA_len 0 L] at hrow'
  have HWR := Lib.hid (WReads.of_row hrow')
  clear hall hrow hrow' hb1 B1 hB1
  go_upto_if 110 with (fail)
  go_cut [] (fun wx => ∃ q : PickD, q.ok ∧ Hid (Below w1.heap.size w1 wx) ∧ Hid (BlkIs wx w1.heap.size #[.bool q.raw, .int .i64 q.n, .int .u64 q.x] 94))
  case first =>
    by_cases h0 : ps.length = 0
    · have hb0 : decide ((0 : Int) < (ps.length : Int)) = false := decide_eq_false (by omega)
      have hnl : ¬ 0 < ps.length := by omega
      clear h0
      go_wp2_with fail
      go_meet
      exact ⟨⟨false, 0, 0⟩, ⟨by simp, by simp, by simp⟩, Lib.hid hBc, Lib.hid BC⟩
    · have hb0 : decide ((0 : Int) < (ps.length : Int)) = true := decide_eq_true (by omega)
      have hnl : 0 < ps.length := by omega
      obtain ⟨g, o, hA, d0, d1, d2⟩ := hr1 0 hnl
      have hq := HO.out.ok ps[0] (List.getElem_mem _)
      obtain ⟨q, hqq⟩ : ∃ q, ps[0] = q := ⟨_, rfl⟩
      rw [hqq] at d0 d1 d2 hq
      rw [Nat.zero_mul, Nat.add_zero] at d0 d1 d2
      subst hA
      have f0 := BC.frozen 0
      have f1 := BC.frozen 1
      have f2 := BC.frozen 2
      have z0 := BC.cell 0 (v := .bool false) rfl
      have z1 := BC.cell 1 (v := .int .i64 0) rfl
      have z2 := BC.cell 2 (v := .int .u64 0) rfl
      clear h0 hr1 hqq BC hBc
      go_wp2_with fail
      go_meet
      exact ⟨q, hq, Lib.hid (below_one w1 _), Lib.hid (heap_new w1 _)⟩
  case rest =>
    obtain ⟨w2, hw2⟩ : ∃ W, W = wc := ⟨_, rfl⟩
    subst hw2
    obtain ⟨q, hq, hBx, hBX⟩ := hcut
    obtain ⟨raw, qn, qx⟩ := q
    have hs1 := HB1.out.size
    have o32 := (HBO1.out.below hBx.out).cell 3 (v := .int .i64 N) rfl
    have d0 := hBX.out.cell 0 (v := .bool raw) rfl
    have d1 := hBX.out.cell 1 (v := .int .i64 qn) rfl
    have d2 := hBX.out.cell 2 (v := .int .u64 qx) rfl
    have HB2 := Lib.hid (below_then HB1.out hBx.out)
    have HWR2 := Lib.hid (HWR.out.below hBx.out)
    clear o0 o2 q0 hBc BC hr1
    go_wp2_with fail
    go_region_held3 (fun w' => w'.cell? ⟨w.heap.size, 3, none⟩ = some (.int .i64 N) ∧ w'.cell? ⟨w1.heap.size, 0, none⟩ = some (.bool raw) ∧ w'.cell? ⟨w1.heap.size, 1, none⟩ = some (.int .i64 qn) ∧ w'.cell? ⟨w1.heap.size, 2, none⟩ = some (.int .u64 qx) ∧ Below w2.heap.size w2 w')
      (first
        | exact ⟨o32, d0, d1, d2, (Below.refl _ _).drew⟩
        | exact (fun hB' => ⟨cell_below hB' o32, cell_below hB' d0, cell_below hB' d1, cell_below hB' d2, hB'⟩) (below_then (by assumption) hbc)
        | exact (fun hB' => ⟨cell_below hB' o32, cell_below hB' d0, cell_below hB' d1, cell_below hB' d2, hB'⟩) (below_then (Below.drew (by assumption)) hbc)
        | go_keep)
      (first
        | (go_at_call 46; go_split_ands; refine (chosen_any _ L A1 c1 raw qn qx HB.out.ar.wf (by omega) (HWR2.out.below (by assumption)) hq.1 hq.2).mono ?_; rintro e wc ⟨y, rfl, y0, y1, hbc⟩)
        | (go_at_call 45; go_split_ands; refine (asked_true _ O OR ba ra room L A1 c1 y N (HB.out.ar.below (below_then HB2.out (by assumption))) (HB.out.rf.below (below_then HB2.out (by assumption))) (HT.out.below (below_then HB2.out (by assumption))) (HWR2.out.below (by assumption)) y0 y1 HB.out.cells).mono ?_; rintro e wc ⟨rfl, hbc⟩))
    have hbe : Below w2.heap.size w2 wc := below_then (by assumption) hbc
    have HBE := Lib.hid (below_then HB2.out hbe)
    clear hbe
    go_wp2
    go_ret
    exact ⟨rfl, L, O, OR, HB.out.lag HBE.out, fun _ => Ext.refl L, HB.out.cells⟩
theorem step_any (w : World) (O OR : Nat → Prop) (ba ra room : Nat) (L : List ObjA) (T : List CellD) (ps : List PickD) (AT AP : Option Addr) (cT cP : Nat) (N k : Int) (hb : Both w O OR ba ra room L) (hT : TabsA w) (ho : OpIn w O OR T ps AT AP cT cP) :
    Calls Tryd.prog 21 #[.pointer (some ⟨ba, 0, none⟩), .pointer (some ⟨ra, 0, none⟩), .agg #[.int .i64 k, .slice AT T.length cT, .slice AP ps.length cP, .int .i64 N]] w fun e w' => e = .returned (.bool true) ∧ StepAny w w' O OR ba ra room L k := by
  by_cases h0 : k = 0
  · subst h0; exact step_put w O OR ba ra room L T ps AT AP cT cP N hb hT ho
  by_cases h1 : k = 1
  · subst h1; exact step_leaf w O OR ba ra room L T ps AT AP cT cP N hb hT ho
  by_cases h2 : k = 2
  · exact step_held w O OR ba ra room L T ps AT AP cT cP N k hb hT ho (.inl h2)
  by_cases h3 : k = 3
  · exact step_held w O OR ba ra room L T ps AT AP cT cP N k hb hT ho (.inr h3)
  by_cases h4 : k = 4
  · subst h4; exact step_clear w O OR ba ra room L T ps AT AP cT cP N hb hT ho
  exact step_ask w O OR ba ra room L T ps AT AP cT cP N k hb hT ho ⟨h0, h1, h2, h3, h4⟩
end Go.Proofs.YtejcbpbhhofhlaaDoor.Tm
