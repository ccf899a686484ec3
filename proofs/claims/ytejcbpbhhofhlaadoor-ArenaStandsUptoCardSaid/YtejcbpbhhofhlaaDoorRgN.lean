/- Layer 3's law: held. -/
import Derived.Test.YtejcbpbhhofhlaaDoorRgM
import Derived.StillTailTactics
namespace Go.Proofs.YtejcbpbhhofhlaaDoor.Tm
open Go.RowKit
set_option linter.unusedVariables false
set_option linter.unusedSimpArgs false

/-- What a step leaves of both. -/
def StepTo (w w' : World) (O OR : Nat → Prop) (ba ra room : Nat) (L : List ObjA) : Prop :=
  ∃ L' O' OR', Lag w w' O OR O' OR' ba ra room L' (refOf L') ∧ Ext L L' ∧ ∀ o ∈ L', WfC o.cell
theorem one3p {a : Bool} {b c : Int} : ∀ u ∈ ([.bool a, .int .i64 b, .int .u64 c] : List Value), u.oneCell' = true := by
  intro u hu
  simp at hu
  rcases hu with rfl | rfl | rfl <;> rfl
structure HeldRep (w wr : World) (ys : List Int) (vs : List ValR) (vW vV : Value) : Prop where
  base : Below w.heap.size w wr
  ws : wr.ownsRow w.heap.size 31 1 vW ys.length (encW ys)
  vr : wr.ownsRow w.heap.size 39 4 vV vs.length (encVs vs)
theorem HeldRep.below {w wr w' : World} {ys : List Int} {vs : List ValR} {vW vV : Value} (h : HeldRep w wr ys vs vW vV) (hB : Below wr.heap.size wr w') : HeldRep w w' ys vs vW vV := ⟨below_then h.base hB, row_below h.ws hB, row_below h.vr hB⟩
theorem HeldRep.addW {w wr wa w' : World} {ys : List Int} {vs : List ValR} {vW vV : Value} (h : HeldRep w wr ys vs vW vV) (hB : Below wr.heap.size wr wa) (hg : wa.grownBy w' vW.ownBlock) {y : Int} {v' : Value} (hrow : w'.ownsRow w.heap.size 31 1 v' (ys.length + 1) (encW ys ++ [.int .u64 y])) : HeldRep w w' (ys ++ [y]) vs v' vV := by
  have h := h.below hB
  refine ⟨below_grown h.base hg (row_base h.ws), ?_, h.vr.kept hg (rows_ne h.vr h.ws (by decide))⟩
  rw [List.length_append, List.length_singleton, encW_snoc]
  exact hrow
theorem HeldRep.addV {w wr wa w' : World} {ys : List Int} {vs : List ValR} {vW vV : Value} (h : HeldRep w wr ys vs vW vV) (hB : Below wr.heap.size wr wa) (hg : wa.grownBy w' vV.ownBlock) {v : ValR} {v' : Value} (hrow : w'.ownsRow w.heap.size 39 4 v' (vs.length + 1) (encVs vs ++ encV v)) : HeldRep w w' ys (vs ++ [v]) vW v' := by
  have h := h.below hB
  refine ⟨below_grown h.base hg (row_base h.vr), h.ws.kept hg (rows_ne h.ws h.vr (by decide)), ?_⟩
  rw [List.length_append, List.length_singleton, encVs_snoc]
  exact hrow
structure HeldNow (room : Nat) (L : List ObjA) (c : CellD) (ys : List Int) : Prop where
  e1 : rholdE room (refOf L) c (ys.map (valR L)).length (allFind L ys) = holdE room L c ys
  e2 : rholdL room (refOf L) c (ys.map (valR L)) (allFind L ys) = refOf (holdL room L c ys)
  ok : holdE room L c ys = 0 → (findA (holdL room L c ys) (holdX room L c ys)).isSome = true ∧ rholdV room (refOf L) c (ys.map (valR L)) (allFind L ys) = valR (holdL room L c ys) (holdX room L c ys)
  bad : holdE room L c ys ≠ 0 → holdX room L c ys = 0
  ext : Ext L (holdL room L c ys)
  cells : ∀ o ∈ holdL room L c ys, WfC o.cell
  rng : 0 ≤ holdX room L c ys ∧ holdX room L c ys < 18446744073709551616
theorem make_cells {l : List ObjA} {c : CellD} {ws : List Int} (hl : ∀ o ∈ l, WfC o.cell) (hc : WfC c) : ∀ o ∈ (makeA l c ws).1, WfC o.cell := by
  unfold makeA
  split
  · exact hl
  · split
    · exact hl
    · intro o ho
      rcases List.mem_append.1 ho with h | h
      · exact hl o h
      · obtain rfl : o = ⟨c, ws, sizesA l ws⟩ := by simpa using h
        exact hc
theorem held_now {room : Nat} {L : List ObjA} {c : CellD} {ys : List Int} (hw : WfA L) (hcl : ∀ o ∈ L, WfC o.cell) (he : cellE c = 0) (hs : ¬ SmallC c) (hk : ys.length = kidsD c) (hR : ∀ p ∈ ys, 0 ≤ p ∧ p < 18446744073709551616) (hr : room ≤ 262144) (hu : usedA L ≤ room) (h5 : ys.length ≤ 255) (hc : WfC c) : HeldNow room L c ys := by
  obtain ⟨a1, a2, a3, a4, a5⟩ := both_hold hw he hs hk hR hr hu h5
  have bad : holdE room L c ys ≠ 0 → holdX room L c ys = 0 := fun h => by unfold holdX; rw [if_neg h]
  refine ⟨a1, a2, a3, bad, a5, ?_, ?_⟩
  · unfold holdL
    split
    · exact make_cells hcl hc
    · exact hcl
  · by_cases h : holdE room L c ys = 0
    · have hlt : ¬ (room : Int) - (usedA L : Int) < (costC c : Int) := by
        intro hc
        have h' := h
        unfold holdE at h'
        split at h'
        · omega
        · first | (rw [if_pos hc] at h'; omega) | omega
      have e : holdX room L c ys = (makeA L c ys).2 := by unfold holdX; rw [if_pos h]
      rw [e]
      exact (make_find hw he (by omega)).2
    · rw [bad h]; omega
theorem made_step {w wz : World} {O OR O2 OR2 : Nat → Prop} {ba ra room : Nat} {L L' : List ObjA} (h : Lag w wz O OR O2 OR2 ba ra room L' (refOf L')) (he : Ext L L') (hc : ∀ o ∈ L', WfC o.cell) (x E : Int) (v : ValR) (hx : 0 ≤ x ∧ x < 18446744073709551616) (hbad : E ≠ 0 → x = 0) (hok : E = 0 → (findA L' x).isSome = true ∧ v = valR L' x) :
    Calls Tryd.prog 42 #[.pointer (some ⟨ba, 0, none⟩), .pointer (some ⟨ra, 0, none⟩), .int .i64 (L.length : Int), .int .u64 x, .int .i64 E, .agg #[.int .i64 v.obj, .int .i64 v.cell.kind, .int .i64 v.cell.n, .string v.cell.text], .int .i64 E] wz fun e w' => e = .returned (.bool true) ∧ StepTo w w' O OR ba ra room L := by
  have hle : L.length ≤ L'.length := by
    obtain ⟨m, rfl⟩ := he
    simp
  exact (made_ok wz O2 OR2 ba ra room L' L.length x E v h.ar h.rf hle hx.1 hx.2 hbad hok).mono fun e w' ⟨h1, h2⟩ => ⟨h1, L', O2, OR2, h.below h2, he, hc⟩
theorem made_fr {w w' : World} {O : Nat → Prop} {ba room : Nat} {l : List ObjA} (h : Made w w' O ba room l) : Fr O w w' := by
  obtain ⟨_, _, _, _, hf⟩ := h
  exact hf
set_option maxHeartbeats 1000000 in
theorem tuple_big (w : World) (O : Nat → Prop) (ba room : Nat) (l : List ObjA) (A : Option Addr) (n cap : Nat) (h : ArAt w O ba room l) (hk : 255 < n) :
    Calls Tryd.prog 19 #[.pointer (some ⟨ba, 0, none⟩), .slice A n cap] w fun e w' => e = .returned (.tuple #[.int .u64 0, .int .i64 4]) ∧ Made w w' O ba room l := by
  have hb : decide ((255 : Int) < (n : Int)) = true := decide_eq_true (by omega)
  have hM := Made.of_below h (Below.refl w.heap.size w)
  clear h
  go_enter Tryd.func19, Tryd.ntmps19
  go_wp2_with fail
  go_ret2
  exact ⟨rfl, hM⟩
structure TupNow (w : World) (O OR : Nat → Prop) (ba ra room : Nat) (L : List ObjA) (ys : List Int) (n : Nat) (X E : Int) (v : ValR) (L' : List ObjA) : Prop where
  ext : Ext L L'
  cells : ∀ o ∈ L', WfC o.cell
  rng : 0 ≤ X ∧ X < 18446744073709551616
  bad : E ≠ 0 → X = 0
  ok : E = 0 → (findA L' X).isSome = true ∧ v = valR L' X
  tup : ∀ W A c, Below w.heap.size w W → WReads W A ys → Calls Tryd.prog 19 #[.pointer (some ⟨ba, 0, none⟩), .slice A n c] W fun e w' => e = .returned (.tuple #[.int .u64 X, .int .i64 E]) ∧ Made W w' O ba room L'
  hold : ∀ W A c, RfAt W OR ra room (refOf L) → 3 ≤ W.heap.size → VReads W A (ys.map (valR L)) → Calls Tryd.prog 65 #[.pointer (some ⟨ra, 0, none⟩), .agg #[.int .i64 5, .int .i64 (n : Int), .string ⟨#[]⟩], .slice A n c, .bool (allFind L ys)] W fun e w' => e = .returned (.tuple #[.agg #[.int .i64 v.obj, .int .i64 v.cell.kind, .int .i64 v.cell.n, .string v.cell.text], .int .i64 E]) ∧ RMade W w' OR NoX ra room (refOf L')
theorem tup_now {w : World} {O OR : Nat → Prop} {ba ra room : Nat} {L : List ObjA} {ys : List Int} {n : Nat} (hb : Both w O OR ba ra room L) (hT : TabsA w) (hn : ys.length = n) (hx : ∀ y ∈ ys, 0 ≤ y ∧ y < 18446744073709551616) (hl : n ≤ 1000000) : ∃ X E v L', TupNow w O OR ba ra room L ys n X E v L' := by
  have hlims := hb.ar.lims
  have hll := hb.ar.wf.len
  have hrl : (refOf L).length ≤ 1000000 := by rw [refOf_len]; omega
  have hru : usedR (refOf L) ≤ 1000000000 := by unfold usedR; rw [usedR_ref]; omega
  have hvl : (ys.map (valR L)).length = n := by rw [List.length_map, hn]
  have hrc := ref_cells hb.ar.wf hb.cells
  subst hn
  by_cases h5 : ys.length ≤ 255
  · obtain ⟨k1, k2, k3⟩ := tupA_ok h5
    have H := held_now (room := room) (c := tupA ys.length) hb.ar.wf hb.cells k1 (by unfold SmallC tupA; simp) k2.symm hx hlims.1 hlims.2 h5 k3
    refine ⟨_, _, rholdV room (refOf L) (tupA ys.length) (ys.map (valR L)) (allFind L ys), _, H.ext, H.cells, H.rng, H.bad, H.ok, fun W A c hB hr => tuple_any W O ba room L ys A c (hb.ar.below hB) (hT.below hB) hr h5 hx, fun W A c hR h3 hv => ?_⟩
    have h := rhold_any W OR ra room (refOf L) (tupA ys.length) (ys.map (valR L)) A c (allFind L ys) hR hrc hrl hru (by omega) h3 hv (by rw [hvl]; exact hl) (fun _ => ⟨k1, k3⟩)
    rw [H.e1, H.e2, hvl] at h
    exact h
  · refine ⟨0, 4, ⟨0, zeroR⟩, L, Ext.refl L, hb.cells, by omega, fun _ => rfl, fun e => by omega, fun W A c hB hr => tuple_big W O ba room L A ys.length c (hb.ar.below hB) (by omega), fun W A c hR h3 hv => ?_⟩
    have hk : (tupA ys.length).kind = 5 ∧ 255 < (ys.map (valR L)).length := ⟨rfl, by rw [hvl]; omega⟩
    have h := rhold_any W OR ra room (refOf L) (tupA ys.length) (ys.map (valR L)) A c (allFind L ys) hR hrc hrl hru (by omega) h3 hv (by rw [hvl]; exact hl) (fun hc => absurd hk hc)
    have e1 : rholdE room (refOf L) (tupA ys.length) (ys.map (valR L)).length (allFind L ys) = 4 := by unfold rholdE; rw [if_pos hk]
    have e2 : rholdL room (refOf L) (tupA ys.length) (ys.map (valR L)) (allFind L ys) = refOf L := by unfold rholdL; rw [e1, if_neg (by omega)]
    have e3 : rholdV room (refOf L) (tupA ys.length) (ys.map (valR L)) (allFind L ys) = ⟨0, zeroR⟩ := by unfold rholdV; rw [e1, if_neg (by omega)]
    rw [e1, e2, e3, hvl] at h
    exact h
theorem allFind_snoc (l : List ObjA) (ys : List Int) (y : Int) : allFind l (ys ++ [y]) = (allFind l ys && (findA l y).isSome) := by simp [allFind]
theorem picks_len (k : Int) (ps : List PickD) (h : ps.length ≤ 1000000) : (picksOf k ps).length ≤ 1000000 ∧ (k = 3 → (picksOf k ps).length = 2) := by
  unfold picksOf
  split
  · simp
  · rename_i hk; exact ⟨h, fun e => absurd e hk⟩
set_option maxRecDepth 10000 in
set_option maxHeartbeats 8000000 in
theorem held_true (w : World) (O OR : Nat → Prop) (ba ra room : Nat) (L : List ObjA) (A AT AP : Option Addr) (cap nT cT cP : Nat) (k N : Int) (ps : List PickD) (hb : Both w O OR ba ra room L) (hT : TabsA w) (hr : WReads w A (wordsA 0 L)) (hp : PReads w AP ps) (hpl : ps.length ≤ 1000000) (hpc : ps.length ≤ cP) (hpo : ∀ p ∈ ps, p.ok) :
    Calls Tryd.prog 44 #[.pointer (some ⟨ba, 0, none⟩), .pointer (some ⟨ra, 0, none⟩), .slice A L.length cap, .agg #[.int .i64 k, .slice AT nT cT, .slice AP ps.length cP, .int .i64 N]] w fun e w' => e = .returned (.bool true) ∧ StepTo w w' O OR ba ra room L := by
  have hlims := hb.ar.lims
  have hwf := hb.ar.wf
  have hll := hwf.len
  have h3 := tabs_size hT
  obtain ⟨hq1, hq2⟩ := picks_len k ps hpl
  have hpo2 : ∀ p ∈ picksOf k ps, p.ok := by
    unfold picksOf
    split
    · intro p hp
      rcases List.mem_append.1 (List.mem_of_mem_take hp) with hp | hp
      · exact hpo p hp
      · have : p = twoP := by simp at hp; exact hp
        rw [this]
        exact ⟨by simp [twoP], by simp [twoP], by simp [twoP]⟩
    · exact hpo
  have HB := Lib.hid hb
  have HT := Lib.hid hT
  have HR := Lib.hid hr
  have HP := Lib.hid hp
  have HPO := Lib.hid hpo2
  have HWF := Lib.hid hwf
  have hB0 := below_one w (.cells #[.int .i64 k, .slice AT nT cT, .slice AP ps.length cP, .int .i64 N] 59)
  have BO : BlkIs (w.alloc (.cells #[.int .i64 k, .slice AT nT cT, .slice AP ps.length cP, .int .i64 N] 59)) w.heap.size #[.int .i64 k, .slice AT nT cT, .slice AP ps.length cP, .int .i64 N] 59 := heap_new w _
  have HB0 := Lib.hid hB0
  have HBO := Lib.hid BO
  have o0 := BO.cell 0 (v := .int .i64 k) rfl
  have o2 := BO.cell 2 (v := .slice AP ps.length cP) rfl
  clear hb hT hr hp hpo hpo2 hwf hB0 BO
  go_enter Tryd.func44, Tryd.ntmps44
  go_upto_if 30 with (fail)
  go_cut [9] (fun s9 wx => ∃ A9 c9, Hid (s9 = .slice A9 (picksOf k ps).length c9 ∧ PReads wx A9 (picksOf k ps)) ∧ Hid (Below (w.alloc (.cells #[.int .i64 k, .slice AT nT cT, .slice AP ps.length cP, .int .i64 N] 59)).heap.size (w.alloc (.cells #[.int .i64 k, .slice AT nT cT, .slice AP ps.length cP, .int .i64 N] 59)) wx))
  case first =>
    by_cases hk : k = 3
    · have hkb : (k == 3) = true := by rw [hk]; rfl
      have HPK := Lib.hid (show picksOf k ps = (ps ++ [twoP, twoP]).take 2 by unfold picksOf; rw [if_pos hk])
      obtain ⟨i0, hi, hz0, hz1, hz2⟩ := info_parts pick_info
      obtain ⟨w0, hw0⟩ : ∃ W, w.alloc (.cells #[.int .i64 k, .slice AT nT cT, .slice AP ps.length cP, .int .i64 N] 59) = W := ⟨_, rfl⟩
      rw [hw0] at HB0 o0 o2 ⊢
      have HW0 := Lib.hid hw0
      have hS := Lib.hid (Src.of_preads (HP.out.below HB0.out))
      have hs0 := HB0.out.size
      clear hk hw0 HBO
      go_wp2_with (first
        | (at_builtin
           refine wpList_app _ rfl (.tmp 31) (.tmp 33) _ rfl w0.heap.size _ i0 _ 3 24 Tryd.underlying57 hi hz0 hz1 hz2 rfl (by omega) (.slice none 0 0) 0 [] rfl (row_nil _ _ _ _) AP ps.length cP (encP ps) rfl hS.out (by simp only [maxLen]; omega) (by omega) (Nat.le_refl _) ?_
           intro v1 w3 hown3 hg3 hat3
           rw [Nat.zero_add, List.nil_append] at hown3
           have hB3 : Below w0.heap.size w0 w3 := (Below.refl _ _).grown hg3 (Nat.le_refl _) (by simp [Value.ownBlock])
           have hsz3 := hB3.size
           obtain ⟨A3, c3, rfl⟩ := row_slice hown3)
        | (at_builtin
           refine wpList_append_lies _ rfl _ _ _ rfl w0.heap.size 94 i0 _ 3 24 Tryd.underlying57 hi hz0 hz1 hz2 rfl (by omega) (.slice A3 ps.length c3) ps.length (encP ps) rfl (hown3.alloc _) ⟨w3.heap.size, 0, none⟩ 2 2 [.bool true, .int .i64 0, .int .u64 2, .bool true, .int .i64 0, .int .u64 2] rfl rfl (World.news_of_block (cs := #[.bool true, .int .i64 0, .int .u64 2, .bool true, .int .i64 0, .int .u64 2]) (t := 94) (fr := (0, 0)) (heap_alloc_new w3 _)) (by simp [Value.oneCell']) (by omega) (by unfold maxLen; omega) (by omega) (by rw [World.size_alloc]; omega) (w3.heap.size + 1) (World.size_alloc _ _) ?_
           intro g4 c4 w4 hown4 hgrow4 hat4 hlt4
           have hcap4 := row_cap hown4))
      go_meet
      have hB4 := below_grown (below_alloc' hB3 _) hgrow4 (row_base hown3)
      refine ⟨some ⟨g4, 0, none⟩, c4, Lib.hid ⟨?_, ?_⟩, Lib.hid ?_⟩
      · rw [HPK.out]
        simp
      · rw [HPK.out]
        exact (PReads.of_row (l := ps ++ [twoP, twoP]) (cap := c4) (by
          rw [List.length_append]
          have e : encP (ps ++ [twoP, twoP]) = encP ps ++ [.bool true, .int .i64 0, .int .u64 2, .bool true, .int .i64 0, .int .u64 2] := by simp [encP, twoP]
          rw [e]
          exact hown4)).take 2
      · rw [HW0.out]
        exact hB4
    · have hkb : (k == 3) = false := beq_eq_false_iff_ne.2 hk
      have HPK := Lib.hid (show picksOf k ps = ps by unfold picksOf; rw [if_neg hk])
      clear hk
      go_wp2_with fail
      go_meet
      rw [HPK.out]
      exact ⟨AP, cP, Lib.hid ⟨rfl, HP.out.below HB0.out⟩, Lib.hid (Below.refl _ _)⟩
  case rest =>
    obtain ⟨A9, c9, h9, hB9⟩ := hcut
    obtain ⟨wx, hwx⟩ : ∃ W, W = wc := ⟨_, rfl⟩
    subst hwx
    obtain ⟨e9, hP9⟩ := h9.out
    subst e9
    have HBx := Lib.hid (below_then HB0.out hB9.out)
    have oo0 := cell_below hB9.out o0
    have HBO9 := Lib.hid (HBO.out.below hB9.out)
    have HP9 := Lib.hid hP9
    have hszx := HBx.out.size
    obtain ⟨P, hP⟩ : ∃ P, picksOf k ps = P := ⟨_, rfl⟩
    rw [hP] at hq1 hq2 HPO HP9 ⊢
    clear h9 hB9 o0 o2 hP9 hP HBO HB0 HP hpl hpc
    go_wp2_with fail
    go_loopw [10, 11, 12, 13] (fun vW vV o i wr => ∃ (j : Nat) (ys : List Int), j ≤ P.length ∧ ys.length = j ∧ o = .bool (allFind L ys) ∧ i = .int .i64 (j : Int) ∧ Hid (HeldRep wx wr ys (ys.map (valR L)) vW vV ∧ ∀ y ∈ ys, 0 ≤ y ∧ y < 18446744073709551616)) (fun vW vV o i wr => P.length - (intOf i).toNat)
    case atStart => exact ⟨0, [], Nat.zero_le _, rfl, rfl, rfl, Lib.hid ⟨⟨Below.refl _ _, row_nil _ _ _ _, row_nil _ _ _ _⟩, fun y hy => (by cases hy)⟩⟩
    case round =>
      obtain ⟨j, ys, hj, hyl, rfl, rfl, hH⟩ := hrel
      have hBr := Lib.hid hH.out.1.base
      by_cases hlt : j < P.length
      · obtain ⟨b, o, hA9, p0, p1, p2⟩ := (HP9.out.below hBr.out) j hlt
        subst hA9
        have hpk := HPO.out P[j] (List.getElem_mem _)
        obtain ⟨q, hq⟩ : ∃ q, P[j] = q := ⟨_, rfl⟩
        rw [hq] at p0 p1 p2 hpk
        obtain ⟨raw, qn, qx⟩ := q
        have hch := chosen_any wr L A cap raw qn qx HWF.out (by omega) ((HR.out.below HBx.out).below hBr.out) hpk.1 hpk.2
        obtain ⟨AW, cW, hvW⟩ := row_slice hH.out.1.ws
        obtain ⟨AV, cV, hvV⟩ := row_slice hH.out.1.vr
        subst hvW
        subst hvV
        have hlm : (ys.map (valR L)).length = j := by rw [List.length_map, hyl]
        have HY := Lib.hid hyl
        have HLM := Lib.hid hlm
        have hj1 : (j : Int) < (P.length : Int) := by omega
        have hj0 : (0 : Int) ≤ (j : Int) := Int.natCast_nonneg _
        have hrW := hH.out.1.ws
        have hrV := hH.out.1.vr
        rw [hyl] at hrW ⊢
        rw [hlm] at hrV ⊢
        have hszr := hH.out.1.base.size
        clear hq hpk hyl hlm
        go_wp2_with fail
        refine hch.mono ?_
        rintro e w1 ⟨y, rfl, y0, y1, hb1⟩
        have hva := value_any w1 OR ra room L A cap y y0 y1 ((HB.out.rf.below (below_then HBx.out hBr.out)).below hb1) HWF.out (by omega) (((HR.out.below HBx.out).below hBr.out).below hb1)
        have HVL := Lib.hid (rfl : valR L y = valR L y)
        have HIS := Lib.hid (allFind_snoc L ys y)
        generalize hv : valR L y = v at hva
        generalize his : (findA L y).isSome = is at hva HIS
        unfold ValR.agg at hva
        clear hch p0 p1 p2
        go_wp2_with fail
        refine hva.mono ?_
        rintro e w2 ⟨rfl, hb2⟩
        have hB3 := below_alloc' (below_then hb1 hb2) (.cells #[.int .i64 v.obj, .int .i64 v.cell.kind, .int .i64 v.cell.n, .string v.cell.text] 39)
        have BV : BlkIs (w2.alloc (.cells #[.int .i64 v.obj, .int .i64 v.cell.kind, .int .i64 v.cell.n, .string v.cell.text] 39)) w2.heap.size #[.int .i64 v.obj, .int .i64 v.cell.kind, .int .i64 v.cell.n, .string v.cell.text] 39 := heap_new w2 _
        obtain ⟨w3, hw3⟩ : ∃ W, w2.alloc (.cells #[.int .i64 v.obj, .int .i64 v.cell.kind, .int .i64 v.cell.n, .string v.cell.text] 39) = W := ⟨_, rfl⟩
        rw [hw3] at hB3 BV
        have hs2 := (below_then hb1 hb2).size
        have HW3 := Lib.hid hw3
        have HH3 := Lib.hid (hH.out.1.below hB3)
        have hrW3 := Lib.hid (row_below hrW hB3)
        have hrV3 := Lib.hid (row_below hrV hB3)
        have hol := Lib.hid (fun k hk => row_lt hrW k hk)
        have hs3 := hB3.size
        have HBV := Lib.hid (BV.below (below_one w3 (.cells #[.int .u64 y] 31)))
        obtain ⟨j0, ji, jz0, jz1, jz2⟩ := info_parts word_info
        obtain ⟨i0, hi, hz0, hz1, hz2⟩ := info_parts val_info
        have hA1 : j + 1 ≤ maxLen := by unfold maxLen; omega
        have hA2 : (j + 1) * 8 ≤ 140737488355328 := by omega
        have hA3 : wx.heap.size ≤ (w3.alloc (.cells #[.int .u64 y] 31)).heap.size := by rw [World.size_alloc]; omega
        have hA5 : (j + 1) * 40 ≤ 140737488355328 := by omega
        have onev : ∀ u ∈ ([.int .i64 v.obj, .int .i64 v.cell.kind, .int .i64 v.cell.n, .string v.cell.text] : List Value), u.oneCell' = true := by
          intro u hu
          simp at hu
          rcases hu with rfl | rfl | rfl | rfl <;> rfl
        clear hw3 hB3 BV hrW hrV hva hb1 hb2
        go_upto_region 15 with (fail)
        rw [HW3.out]
        go_upto_region 17 with (first
          | (at_builtin
             refine wpList_append_lies _ rfl _ _ _ rfl wx.heap.size 31 j0 _ 1 8 Tryd.underlying25 ji jz0 jz1 jz2 rfl (by omega) (.slice AW j cW) j (encW ys) rfl (hrW3.out.alloc _) ⟨w3.heap.size, 0, none⟩ 1 1 [.int .u64 y] rfl rfl (World.news_of_block (cs := #[.int .u64 y]) (t := 31) (fr := (0, 0)) (heap_alloc_new w3 _)) (by simp [Value.oneCell']) (by omega) hA1 hA2 hA3 (w3.heap.size + 1) (World.size_alloc _ _) ?_
             intro g2 cap2 w6 hown6 hgrow6 hat6 hlt6
             have BV6 := HBV.out.grown hgrow6 (fun e => by have := hol.out _ e; omega)
             have m0 := BV6.cell 0 (v := .int .i64 v.obj) rfl
             have m1 := BV6.cell 1 (v := .int .i64 v.cell.kind) rfl
             have m2 := BV6.cell 2 (v := .int .i64 v.cell.n) rfl
             have m3 := BV6.cell 3 (v := .string v.cell.text) rfl
             have HH6 : Hid (HeldRep wx w6 (ys ++ [y]) (ys.map (valR L)) (.slice (some ⟨g2, 0, none⟩) (j + 1) cap2) (.slice AV (ys.map (valR L)).length cV)) := Lib.hid (by
               have e := HY.out
               subst e
               exact HH3.out.addW (below_one w3 _) hgrow6 hown6)
             have hrV6 : Hid (w6.ownsRow wx.heap.size 39 4 (.slice AV j cV) j (encVs (ys.map (valR L)))) := Lib.hid (by
               have h := HH6.out.vr
               rw [HLM.out] at h
               exact h)
             have hsw6 := HH6.out.base.size
             have hA6 : wx.heap.size ≤ (w6.alloc (.cells #[.int .i64 v.obj, .int .i64 v.cell.kind, .int .i64 v.cell.n, .string v.cell.text] 39)).heap.size := by rw [World.size_alloc]; omega)
          | (at_builtin
             refine wpList_append_lies _ rfl _ _ _ rfl wx.heap.size 39 i0 _ 4 40 Tryd.underlying97 hi hz0 hz1 hz2 rfl (by omega) (.slice AV j cV) j (encVs (ys.map (valR L))) rfl (hrV6.out.alloc _) ⟨w6.heap.size, 0, none⟩ 1 1 [.int .i64 v.obj, .int .i64 v.cell.kind, .int .i64 v.cell.n, .string v.cell.text] rfl rfl (World.news_of_block (cs := #[.int .i64 v.obj, .int .i64 v.cell.kind, .int .i64 v.cell.n, .string v.cell.text]) (t := 39) (fr := (0, 0)) (heap_alloc_new w6 _)) onev (by omega) hA1 hA5 hA6 (w6.heap.size + 1) (World.size_alloc _ _) ?_
             intro g3 cap3 w7 hown7 hgrow7 hat7 hlt7)
          | fail)
        have HF := Lib.hid (show HeldRep wx w7 (ys ++ [y]) ((ys ++ [y]).map (valR L)) (.slice (some ⟨g2, 0, none⟩) (j + 1) cap2) (.slice (some ⟨g3, 0, none⟩) (j + 1) cap3) ∧ ∀ u ∈ ys ++ [y], 0 ≤ u ∧ u < 18446744073709551616 from by
          refine ⟨?_, fun u hu => ?_⟩
          · rw [List.map_append, List.map_singleton, hv]
            have e := HLM.out
            have h6 := HH6.out
            rw [e] at h6
            refine h6.addV (below_one w6 _) hgrow7 ?_
            rw [e]
            exact hown7
          · rcases List.mem_append.1 hu with h | h
            · exact hH.out.2 u h
            · obtain rfl : u = y := by simpa using h
              exact ⟨y0, y1⟩)
        have HLN := Lib.hid (show (ys ++ [y]).length = j + 1 by rw [List.length_append, List.length_singleton, HY.out])
        clear hgrow7 hgrow6 hown6 hown7 hat6 hat7 m0 m1 m2 m3 HH6 hrV6 HH3 hrW3 hrV3 hH HBV hv his
        generalize allFind L ys = ok at HIS ⊢
        cases ok
        all_goals
          go_wp2
          go_roundw
          case rel => exact ⟨j + 1, ys ++ [y], by omega, HLN.out, by rw [HIS.out]; simp, by go_num, HF⟩
          case measure => simp [intOf]; omega
      · obtain rfl : j = P.length := by omega
        have hx := hH.out.2
        obtain ⟨AW, cW, hvW⟩ := row_slice hH.out.1.ws
        obtain ⟨AV, cV, hvV⟩ := row_slice hH.out.1.vr
        subst hvW
        subst hvV
        have hB4 := below_then HBx.out hBr.out
        have HB4 := Lib.hid hB4
        have oo4 := cell_below hBr.out oo0
        have hRows := hH.out.1
        rw [List.length_map] at hRows ⊢
        have hlv : (ys.map (valR L)).length = ys.length := List.length_map _
        have HCL := Lib.hid HB.out.cells
        have HLIM := Lib.hid (fun k hk => (HB.out.ar.lim k hk).2)
        have HLIR := Lib.hid (fun k hk => (HB.out.rf.lim k hk).2)
        have hszr := hBr.out.size
        by_cases hk : k = 3
        · have hkb : (k == 3) = true := by rw [hk]; rfl
          have hy2 := hyl.trans (hq2 hk)
          clear hk hq2
          match ys, hy2 with
          | [y, z], hy2' =>
            have HYL := Lib.hid hyl
            rw [show [y, z].length = 2 from rfl] at hRows ⊢
            clear hyl hy2 hy2' hlv
            have hyr := hx y (by simp)
            have hzr := hx z (by simp)
            obtain ⟨cA1, cA2, cA3, cA4⟩ := consA_ok
            have HN := Lib.hid (held_now (room := room) (c := consA) HWF.out HCL.out cA1 (by unfold SmallC consA; simp) (show [y, z].length = kidsD consA by rw [cA2]; rfl) hx hlims.1 hlims.2 (by simp) cA3)
            obtain ⟨gW, rfl, hgb, hgl⟩ := row_form hRows.ws (by simp)
            have hw0 := row_cell1 hRows.ws (j := 0) (u := .int .u64 y) rfl
            have hw1 := row_cell1 hRows.ws (j := 1) (u := .int .u64 z) rfl
            have hcons := fun W (hB : Below wr.heap.size wr W) => cons_any W O ba room L y z hyr hzr (HB.out.ar.below (below_then hB4 hB)) (HT.out.below (below_then hB4 hB))
            have HROW := Lib.hid hRows
            obtain ⟨X, hX⟩ : ∃ X, holdX room L consA [y, z] = X := ⟨_, rfl⟩
            obtain ⟨E, hE⟩ : ∃ E, holdE room L consA [y, z] = E := ⟨_, rfl⟩
            rw [hX, hE] at hcons
            have HX := Lib.hid hX
            have HE := Lib.hid hE
            clear hRows hX hE hx hB4
            go_upto_region 19 with (fail)
            go_cut [17, 18] (fun s17 s18 wc => s17 = .int .u64 X ∧ s18 = .int .i64 E ∧ Made wr wc O ba room (holdL room L consA [y, z]))
            case first =>
              go_region_with (go_at_call 27; refine (hcons _ (by first | exact (Below.refl _ _).drew | exact below_drewA (Below.refl _ _) _)).mono ?_; rintro e w5 ⟨rfl, hM⟩)
              all_goals
                go_simp
                refine ‹∀ (a' : Act) (w' : World), Met _ a' w' → _› _ _ ?_
                go_meet
                exact ⟨rfl, rfl, Made.pre (by first | exact (Below.refl _ _).drew | exact below_drewA (Below.refl _ _) _) hM⟩
            obtain ⟨w5, hw5⟩ : ∃ W, W = wc := ⟨_, rfl⟩
            subst hw5
            obtain ⟨rfl, rfl, hM⟩ := hcut
            obtain ⟨O2, hL1⟩ := (HB.out.lag HB4.out).made hM
            have hR1 := HROW.out
            have hFr := made_fr hM
            have hvr := row_fr hR1.vr hFr (fun b hb ho => by have := HLIM.out b ho; have := row_base hR1.vr b hb; omega)
            have hvr' := VReads.of_row (l := [y, z].map (valR L)) hvr
            have hho := rhold_any w5 OR ra room (refOf L) consA ([y, z].map (valR L)) AV cV (allFind L [y, z]) hL1.rf (ref_cells HWF.out HCL.out) (by rw [refOf_len]; omega) (by unfold usedR; rw [usedR_ref]; omega) (by omega) (by have := hL1.fr.size; omega) hvr' (by simp) (fun _ => ⟨cA1, cA3⟩)
            rw [HN.out.e1, HE.out, HN.out.e2] at hho
            obtain ⟨v, hv⟩ : ∃ v, rholdV room (refOf L) consA ([y, z].map (valR L)) (allFind L [y, z]) = v := ⟨_, rfl⟩
            have hok := HN.out.ok
            have hbd := HN.out.bad
            have hrg := HN.out.rng
            rw [HX.out, HE.out, hv] at hok
            rw [HX.out, HE.out] at hbd
            rw [HX.out] at hrg
            rw [hv] at hho
            unfold ValR.agg at hho
            have HOK := Lib.hid hok
            have HBD := Lib.hid hbd
            have HL1 := Lib.hid hL1
            clear hok hbd hL1 hv hvr hvr' hR1 hFr hM hcons
            generalize allFind L [y, z] = okb at *
            go_wp2_with fail
            refine hho.mono ?_
            rintro e w6 ⟨rfl, hRm⟩
            obtain ⟨OR2, hL2⟩ := HL1.out.rmade hRm
            have hmd := made_step (hL2.below (below_one w6 (.cells #[.int .i64 v.obj, .int .i64 v.cell.kind, .int .i64 v.cell.n, .string v.cell.text] 39))) HN.out.ext HN.out.cells X E v hrg HBD.out HOK.out
            go_wp2_with fail
            refine hmd.mono ?_
            rintro e w7 ⟨rfl, hst⟩
            go_wp2
            go_ret
            exact ⟨rfl, hst⟩
        · have hkb : (k == 3) = false := beq_eq_false_iff_ne.2 hk
          rw [hyl] at hRows ⊢
          have hn := hq1
          obtain ⟨n, hnn⟩ : ∃ n, P.length = n := ⟨_, rfl⟩
          rw [hnn] at hyl hRows hn ⊢
          obtain ⟨X, E, v, L', HTn⟩ := tup_now HB.out HT.out hyl hx hn
          have HTN := Lib.hid HTn
          obtain ⟨j0, ji, jz0, jz1, jz2⟩ := info_parts word_info
          have hws := WReads.of_row (l := ys) (cap := cW) (by have h := hRows.ws; rw [hyl] at h ⊢; exact h)
          have hS0 := Src.of_wreads hws
          rw [hyl] at hS0
          have hS := Lib.hid hS0
          have HRW := Lib.hid hRows
          have HYL := Lib.hid hyl
          have hA1 : n + 1 ≤ maxLen := by unfold maxLen; omega
          have hA2 : (n + 1) * 8 ≤ 140737488355328 := by omega
          have hsw := hB4.size
          have hi1 : (n : Int) < (n : Int) + 1 := by omega
          have hi0 : (0 : Int) ≤ (n : Int) := Int.natCast_nonneg _
          clear hk hq2 hq1 hlt hj hlv hnn HTn hws hRows hx hB4 hS0 hyl
          go_upto_region 25 with (first
            | (at_builtin
               refine wpList_app _ rfl (.tmp 104) (.tmp 105) _ rfl wr.heap.size _ j0 _ 1 8 Tryd.underlying25 ji jz0 jz1 jz2 rfl (by omega) (.slice none 0 0) 0 [] rfl (row_nil _ _ _ _) AW n cW (encW ys) rfl hS.out (by simp only [maxLen]; omega) (by omega) (Nat.le_refl _) ?_
               intro v1 w3 hown3 hg3 hat3
               rw [Nat.zero_add, List.nil_append] at hown3
               have hB3 : Below wr.heap.size wr w3 := (Below.refl _ _).grown hg3 (Nat.le_refl _) (by simp [Value.ownBlock])
               have hsz3 := hB3.size
               obtain ⟨A3, c3, rfl⟩ := row_slice hown3)
            | (at_builtin
               refine wpList_append_lies _ rfl _ _ _ rfl wr.heap.size 31 j0 _ 1 8 Tryd.underlying25 ji jz0 jz1 jz2 rfl (by omega) (.slice A3 n c3) n (encW ys) rfl (hown3.alloc _) ⟨w3.heap.size, 0, none⟩ 1 1 [.int .u64 4321] rfl rfl (World.news_of_block (cs := #[.int .u64 4321]) (t := 31) (fr := (0, 0)) (heap_alloc_new w3 _)) (by simp [Value.oneCell']) (by omega) hA1 hA2 (by rw [World.size_alloc]; omega) (w3.heap.size + 1) (World.size_alloc _ _) ?_
               intro g4 c4 w4 hown4 hgrow4 hat4 hlt4)
            | fail)
          have hBw := below_grown (below_alloc' hB3 _) hgrow4 (row_base hown3)
          have HBW := Lib.hid hBw
          have hcap4 := row_cap hown4
          have hwo := WReads.of_row (l := ys ++ [4321]) (cap := c4) (A := some ⟨g4, 0, none⟩) (e := 31) (base := wr.heap.size) (w := w4) (by
            rw [List.length_append, List.length_singleton, HYL.out, encW_snoc]
            exact hown4)
          have hwt : WReads w4 (some ⟨g4, 0, none⟩) ys := by
            have h := hwo.take n
            rw [← HYL.out, List.take_left' rfl] at h
            exact h
          have hB5 := below_then HB4.out hBw
          have htp := HTN.out.tup w4 (some ⟨g4, 0, none⟩) c4 hB5 hwt
          have HOWN := Lib.hid hown4
          have HTW := Lib.hid hwt
          clear hwt hwo hown4 hgrow4 hat4 hown3 hg3 hat3 hBw
          go_wp2_with fail
          refine htp.mono ?_
          rintro e w5 ⟨rfl, hM⟩
          have HM := Lib.hid hM
          obtain ⟨O2, hL1⟩ := (HB.out.lag hB5).made hM
          have hF1 := made_fr hM
          have hvl : (ys.map (valR L)).length = n := by rw [List.length_map, HYL.out]
          have hR4 := HRW.out.below HBW.out
          have hbw : ∀ (v : Value) (u : World), (∀ b, v.ownBlock = some b → wx.heap.size ≤ b) → ∀ b, v.ownBlock = some b → ¬ O b := fun v u h b hb ho => by
            have := HLIM.out b ho
            have := h b hb
            omega
          have hvr := row_fr hR4.vr hF1 (fun b hb ho => by have := HLIM.out b ho; have := row_base hR4.vr b hb; omega)
          have hwr := row_fr hR4.ws hF1 (fun b hb ho => by have := HLIM.out b ho; have := row_base hR4.ws b hb; omega)
          have hor := row_fr HOWN.out hF1 (fun b hb ho => by have := HLIM.out b ho; have := row_base HOWN.out b hb; omega)
          have hv5 : VReads w5 AV (ys.map (valR L)) := VReads.of_row (cap := cV) (by rw [hvl] at hvr ⊢; exact hvr)
          have hho := HTN.out.hold w5 AV cV hL1.rf (by have := hL1.fr.size; omega) hv5
          have HL1 := Lib.hid hL1
          have HWR := Lib.hid hwr
          have HOR := Lib.hid hor
          clear hbw hv5 hvr hF1 hL1 hM htp hwr hor hR4
          generalize allFind L ys = okb at *
          go_wp2_with fail
          refine hho.mono ?_
          rintro e w6 ⟨rfl, hRm⟩
          obtain ⟨OR2, hL2⟩ := HL1.out.rmade hRm
          have hF2 : Fr OR w5 w6 := by
            obtain ⟨_, _, _, _, h⟩ := hRm
            exact h
          have hBa := below_one w6 (.cells #[.int .i64 v.obj, .int .i64 v.cell.kind, .int .i64 v.cell.n, .string v.cell.text] 39)
          have hwr := row_below (row_fr HWR.out hF2 (fun b hb ho => by have := HLIR.out b ho; have := row_base HWR.out b hb; omega)) hBa
          have hor := row_below (row_fr HOR.out hF2 (fun b hb ho => by have := HLIR.out b ho; have := row_base HOR.out b hb; omega)) hBa
          have hcl := row_cell1 hor (j := n) (u := .int .u64 4321) (by
            rw [← HYL.out, ← encW_snoc]
            simp [encW])
          have hwo := WReads.of_row (l := ys ++ [4321]) (cap := c4) (A := some ⟨g4, 0, none⟩) (e := 31) (base := wr.heap.size) (w := w6.alloc (.cells #[.int .i64 v.obj, .int .i64 v.cell.kind, .int .i64 v.cell.n, .string v.cell.text] 39)) (by
            rw [List.length_append, List.length_singleton, HYL.out, encW_snoc]
            exact hor)
          have hwt : WReads (w6.alloc (.cells #[.int .i64 v.obj, .int .i64 v.cell.kind, .int .i64 v.cell.n, .string v.cell.text] 39)) (some ⟨g4, 0, none⟩) ys := by
            have h := hwo.take n
            rw [← HYL.out, List.take_left' rfl] at h
            exact h
          have hws := WReads.of_row (l := ys) (cap := cW) (by rw [HYL.out] at hwr ⊢; exact hwr)
          have hsm := samewords_any _ ys (some ⟨g4, 0, none⟩) AW c4 cW hwt hws (by rw [HYL.out]; exact hn)
          rw [HYL.out] at hsm
          have BV : BlkIs (w6.alloc (.cells #[.int .i64 v.obj, .int .i64 v.cell.kind, .int .i64 v.cell.n, .string v.cell.text] 39)) w6.heap.size #[.int .i64 v.obj, .int .i64 v.cell.kind, .int .i64 v.cell.n, .string v.cell.text] 39 := heap_new w6 _
          have HL2 := Lib.hid (hL2.below hBa)
          clear hL2 hwt hws hwo hwr hor hF2 hRm hho HL1
          go_wp2_with fail
          refine hsm.mono ?_
          rintro e w7 ⟨rfl, hb7⟩
          have hc7 := cell_below hb7 hcl
          have B7 := BV.below hb7
          have m0 := B7.cell 0 (v := .int .i64 v.obj) rfl
          have m1 := B7.cell 1 (v := .int .i64 v.cell.kind) rfl
          have m2 := B7.cell 2 (v := .int .i64 v.cell.n) rfl
          have m3 := B7.cell 3 (v := .string v.cell.text) rfl
          have hmd := made_step (HL2.out.below hb7) HTN.out.ext HTN.out.cells X E v HTN.out.rng HTN.out.bad HTN.out.ok
          clear hcl BV B7 hb7 hsm
          go_wp2_with fail
          refine hmd.mono ?_
          rintro e w8 ⟨rfl, hst⟩
          go_wp2
          go_ret
          exact ⟨rfl, hst⟩
end Go.Proofs.YtejcbpbhhofhlaaDoor.Tm
