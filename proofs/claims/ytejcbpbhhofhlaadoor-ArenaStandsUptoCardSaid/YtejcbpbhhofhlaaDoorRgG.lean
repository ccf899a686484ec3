/- Layer 3's reference: Leaf, Hold. -/
import Derived.Test.YtejcbpbhhofhlaaDoorRgF
namespace Go.Proofs.YtejcbpbhhofhlaaDoor.Tm
open Go.RowKit
set_option linter.unusedVariables false
set_option linter.unusedSimpArgs false

def rleafE (cells : Nat) (rs : List ObjR) (c : CellD) : Int := if c.kind = 7 ∨ (c.kind = 5 ∧ 0 < c.n) then 32 else if cellE c ≠ 0 then cellE c else if (cells : Int) - (usedR rs : Int) < (costC c : Int) then 30 else 0
def rleafL (cells : Nat) (rs : List ObjR) (c : CellD) : List ObjR := if rleafE cells rs c = 0 then (leafR rs c).1 else rs
def rleafV (cells : Nat) (rs : List ObjR) (c : CellD) : ValR := if rleafE cells rs c = 0 then (leafR rs c).2 else ⟨0, zeroR⟩
set_option maxHeartbeats 8000000 in
theorem rleaf2_any (w : World) (O : Nat → Prop) (ra cells : Nat) (rs : List ObjR) (c : CellD) (h : RfAt w O ra cells rs) (hwr : ∀ o ∈ rs, WfC o.cell ∧ cellE o.cell = 0) (hrl : rs.length ≤ 1000000) (hru : usedR rs ≤ 1000000000) (hcl : cells ≤ 1000000000) (hc : WfC c) :
    Calls Tryd.prog 43 #[.pointer (some ⟨ra, 0, none⟩), .agg #[.int .i64 c.kind, .int .i64 c.n, .string c.text]] w fun e w' => e = .returned (.tuple #[(rleafV cells rs c).agg, .int .i64 (rleafE cells rs c)]) ∧ RMade w w' O NoX ra cells (rleafL cells rs c) := by
  obtain ⟨wA, hwA⟩ : ∃ W, (w.alloc (.cells #[.int .i64 c.kind, .int .i64 c.n, .string c.text] 37)).alloc (.cells #[.int .i64 0, .int .i64 0, .int .i64 0, .string ⟨#[]⟩] 39) = W := ⟨_, rfl⟩
  have hBA : Below w.heap.size w wA := hwA ▸ below_alloc' (below_one w _) _
  have hXA : BlkIs wA w.heap.size #[.int .i64 c.kind, .int .i64 c.n, .string c.text] 37 := by
    rw [← hwA]
    exact (Below.heap_alloc _ _ _ (by rw [World.size_alloc]; omega)).trans (heap_new w _)
  have hYA : BlkIs wA (w.heap.size + 1) #[.int .i64 0, .int .i64 0, .int .i64 0, .string ⟨#[]⟩] 39 := by
    have := heap_new (w.alloc (.cells #[.int .i64 c.kind, .int .i64 c.n, .string c.text] 37)) (.cells #[.int .i64 0, .int .i64 0, .int .i64 0, .string ⟨#[]⟩] 39)
    rw [World.size_alloc, hwA] at this
    exact this
  have d0 := hXA.cell 0 (v := .int .i64 c.kind) rfl
  have d1 := hXA.cell 1 (v := .int .i64 c.n) rfl
  have d2 := hXA.cell 2 (v := .string c.text) rfl
  have HWA := Lib.hid hwA
  have HBA := Lib.hid hBA
  have HYA := Lib.hid hYA
  have H := Lib.hid h
  have HLIM := Lib.hid (fun k hk => (h.lim k hk).2)
  have HWR := Lib.hid hwr
  have HC := Lib.hid hc
  obtain ⟨c0, _⟩ : w.cell? ⟨ra, 0, none⟩ = some (.int .i64 (cells : Int)) ∧ True := by
    obtain ⟨_, _, hh⟩ := h
    exact ⟨hh.cells.1, trivial⟩
  have c0b := cell_below hBA c0
  obtain ⟨U, hU⟩ : ∃ U, usedR rs = U := ⟨_, rfl⟩
  have HU := Lib.hid hU
  have hrc := rcell_any c wA hc.text
  rw [hU] at hru
  clear hwA hBA hXA hYA h hwr hc c0
  by_cases h5 : c.kind = 5 ∧ 0 < c.n
  · have e5 : (c.kind == 5) = true := by rw [h5.1]; rfl
    have en : decide (0 < c.n) = true := decide_eq_true h5.2
    have hn := h5.2
    have E := Lib.hid (show rleafE cells rs c = 32 by unfold rleafE; rw [if_pos (.inr h5)])
    have E1 := Lib.hid (show rleafL cells rs c = rs by unfold rleafL; rw [E.out, if_neg (by omega)])
    have E2 := Lib.hid (show rleafV cells rs c = ⟨0, zeroR⟩ by unfold rleafV; rw [E.out, if_neg (by omega)])
    have BY := HYA.out
    have z0 := BY.cell 0 (v := .int .i64 0) rfl
    have z1 := BY.cell 1 (v := .int .i64 0) rfl
    have z2 := BY.cell 2 (v := .int .i64 0) rfl
    have z3 := BY.cell 3 (v := .string ⟨#[]⟩) rfl
    have f0 := BY.frozen 0
    have f1 := BY.frozen 1
    have f2 := BY.frozen 2
    have f3 := BY.frozen 3
    have hbl1 := BY.lt
    have BZ := Lib.hid (blk_set4 BY (.int .i64 0) (.int .i64 0) (.int .i64 0) (.string ⟨#[]⟩))
    clear BY h5 hU hrc
    go_enter Tryd.func43, Tryd.ntmps43
    go_upto_region 1 with (fail)
    rw [HWA.out]
    go_wp2
    obtain ⟨q0, q1, q2, q3⟩ := (⟨BZ.out.cell 0 rfl, BZ.out.cell 1 rfl, BZ.out.cell 2 rfl, BZ.out.cell 3 rfl⟩ : _ ∧ _ ∧ _ ∧ _)
    refine bodyPost_ret (v := .tuple #[.agg #[.int .i64 0, .int .i64 0, .int .i64 0, .string ⟨#[]⟩], .int .i64 32]) (by simp [results, Tryd.results43, go_sem, q0, q1, q2, q3]) rfl ?_
    rw [E.out, E1.out, E2.out]
    exact ⟨rfl, RMade.set HBA.out (RMade.of_below (X := NoX) (H.out.below HBA.out) (Below.refl _ _)) HLIM.out (fun k h => h) (b := w.heap.size + 1) (by omega) hbl1 (fr_set4 _ _ _ _)⟩
  have h5b : ((c.kind == 5) = false) ∨ ((c.kind == 5) = true ∧ decide (0 < c.n) = false ∧ ¬ 0 < c.n) := by
    by_cases e : c.kind = 5
    · exact .inr ⟨by rw [e]; rfl, decide_eq_false (fun q => h5 ⟨e, q⟩), fun q => h5 ⟨e, q⟩⟩
    · exact .inl (beq_eq_false_iff_ne.2 e)
  by_cases h7 : c.kind = 7
  · have e7 : (c.kind == 7) = true := by rw [h7]; rfl
    have e5 : (c.kind == 5) = false := by rw [h7]; rfl
    have E := Lib.hid (show rleafE cells rs c = 32 by unfold rleafE; rw [if_pos (.inl h7)])
    have E1 := Lib.hid (show rleafL cells rs c = rs by unfold rleafL; rw [E.out, if_neg (by omega)])
    have E2 := Lib.hid (show rleafV cells rs c = ⟨0, zeroR⟩ by unfold rleafV; rw [E.out, if_neg (by omega)])
    have BY := HYA.out
    have z0 := BY.cell 0 (v := .int .i64 0) rfl
    have z1 := BY.cell 1 (v := .int .i64 0) rfl
    have z2 := BY.cell 2 (v := .int .i64 0) rfl
    have z3 := BY.cell 3 (v := .string ⟨#[]⟩) rfl
    have f0 := BY.frozen 0
    have f1 := BY.frozen 1
    have f2 := BY.frozen 2
    have f3 := BY.frozen 3
    have hbl1 := BY.lt
    have BZ := Lib.hid (blk_set4 BY (.int .i64 0) (.int .i64 0) (.int .i64 0) (.string ⟨#[]⟩))
    clear BY h5 h7 h5b hU hrc
    go_enter Tryd.func43, Tryd.ntmps43
    go_upto_region 1 with (fail)
    rw [HWA.out]
    go_wp2
    obtain ⟨q0, q1, q2, q3⟩ := (⟨BZ.out.cell 0 rfl, BZ.out.cell 1 rfl, BZ.out.cell 2 rfl, BZ.out.cell 3 rfl⟩ : _ ∧ _ ∧ _ ∧ _)
    refine bodyPost_ret (v := .tuple #[.agg #[.int .i64 0, .int .i64 0, .int .i64 0, .string ⟨#[]⟩], .int .i64 32]) (by simp [results, Tryd.results43, go_sem, q0, q1, q2, q3]) rfl ?_
    rw [E.out, E1.out, E2.out]
    exact ⟨rfl, RMade.set HBA.out (RMade.of_below (X := NoX) (H.out.below HBA.out) (Below.refl _ _)) HLIM.out (fun k h => h) (b := w.heap.size + 1) (by omega) hbl1 (fr_set4 _ _ _ _)⟩
  have e7 : (c.kind == 7) = false := beq_eq_false_iff_ne.2 h7
  have hnk : ¬ (c.kind = 7 ∨ (c.kind = 5 ∧ 0 < c.n)) := fun e => by rcases e with e | e; exact h7 e; exact h5 e
  by_cases he : cellE c = 0
  · rw [he] at hrc
    have HE := Lib.hid he
    have hcle := Nat.le_trans (cost_le he) (Nat.add_le_add_left (kidsD_le c) 129)
    have wr1 : IntKind.i64.wrap ((cells : Int) - (U : Int)) = (cells : Int) - (U : Int) := by rw [IntKind.wrap_i64]; omega
    by_cases hf : (cells : Int) - (U : Int) < (costC c : Int)
    · have E := Lib.hid (show rleafE cells rs c = 30 by unfold rleafE; rw [if_neg hnk, if_neg (by omega), hU, if_pos hf])
      have E1 := Lib.hid (show rleafL cells rs c = rs by unfold rleafL; rw [E.out, if_neg (by omega)])
      have E2 := Lib.hid (show rleafV cells rs c = ⟨0, zeroR⟩ by unfold rleafV; rw [E.out, if_neg (by omega)])
      obtain ⟨Z, hZ⟩ : ∃ Z, costC c = Z := ⟨_, rfl⟩
      have HZ := Lib.hid hZ
      rw [hZ] at hf hcle
      have hfb : decide ((cells : Int) - (U : Int) < (Z : Int)) = true := decide_eq_true hf
      clear h5 h7 hnk he hU hZ
      rcases h5b with e5 | ⟨e5, en, hn⟩
      all_goals
        go_enter Tryd.func43, Tryd.ntmps43
        go_upto_region 1 with (fail)
        rw [HWA.out]
        go_wp2_with fail
        refine hrc.mono ?_
        rintro e w1 ⟨rfl, hb1⟩
        have c0c := cell_below hb1 c0b
        have k0 := cell_below hb1 d0
        have k1 := cell_below hb1 d1
        have k2 := cell_below hb1 d2
        have HB1 := Lib.hid (below_then HBA.out hb1)
        have HY1 := Lib.hid (HYA.out.below hb1)
        clear hb1
        go_wp2_with fail
        go_region_held3 (fun w' => w'.cell? ⟨ra, 0, none⟩ = some (.int .i64 (cells : Int)) ∧ w'.cell? ⟨w.heap.size, 0, none⟩ = some (.int .i64 c.kind) ∧ w'.cell? ⟨w.heap.size, 1, none⟩ = some (.int .i64 c.n) ∧ w'.cell? ⟨w.heap.size, 2, none⟩ = some (.string c.text) ∧ Below w1.heap.size w1 w')
          (first
            | exact ⟨c0c, k0, k1, k2, (Below.refl _ _).drew⟩
            | exact (fun hB' => ⟨cell_below hB' c0c, cell_below hB' k0, cell_below hB' k1, cell_below hB' k2, hB'⟩) (below_then (by assumption) hbc)
            | exact (fun hB' => ⟨cell_below hB' c0c, cell_below hB' k0, cell_below hB' k1, cell_below hB' k2, hB'⟩) (below_then (Below.drew (by assumption)) hbc)
            | go_keep)
          (first
            | (go_at_call 35; go_split_ands; refine (rcost_any c _ HC.out HE.out).mono ?_; rw [HZ.out]; rintro e wc ⟨rfl, hbc⟩)
            | (go_at_call 22; go_split_ands; refine (rused_any _ O ra cells rs (H.out.below (below_then HB1.out (by assumption))) HWR.out (by omega) (by rw [HU.out]; omega)).mono ?_; rw [HU.out]; rintro e wc ⟨rfl, hbc⟩))
        have hbe : Below w1.heap.size w1 wc := below_then (by assumption) hbc
        have BY := HY1.out.below hbe
        have z0 := BY.cell 0 (v := .int .i64 0) rfl
        have z1 := BY.cell 1 (v := .int .i64 0) rfl
        have z2 := BY.cell 2 (v := .int .i64 0) rfl
        have z3 := BY.cell 3 (v := .string ⟨#[]⟩) rfl
        have f0 := BY.frozen 0
        have f1 := BY.frozen 1
        have f2 := BY.frozen 2
        have f3 := BY.frozen 3
        have hbl1 := BY.lt
        have BZ := Lib.hid (blk_set4 BY (.int .i64 0) (.int .i64 0) (.int .i64 0) (.string ⟨#[]⟩))
        have HB2 := Lib.hid (below_then HB1.out hbe)
        clear BY hbe hbc
        go_wp2
        obtain ⟨q0, q1, q2, q3⟩ := (⟨BZ.out.cell 0 rfl, BZ.out.cell 1 rfl, BZ.out.cell 2 rfl, BZ.out.cell 3 rfl⟩ : _ ∧ _ ∧ _ ∧ _)
        refine bodyPost_ret (v := .tuple #[.agg #[.int .i64 0, .int .i64 0, .int .i64 0, .string ⟨#[]⟩], .int .i64 30]) (by simp [results, Tryd.results43, go_sem, q0, q1, q2, q3]) rfl ?_
        rw [E.out, E1.out, E2.out]
        exact ⟨rfl, RMade.set HB2.out (RMade.of_below (X := NoX) (H.out.below HB2.out) (Below.refl _ _)) HLIM.out (fun k h => h) (b := w.heap.size + 1) (by omega) hbl1 (fr_set4 _ _ _ _)⟩
    · have E := Lib.hid (show rleafE cells rs c = 0 by unfold rleafE; rw [if_neg hnk, if_neg (by omega), hU, if_neg hf])
      have E1 := Lib.hid (show rleafL cells rs c = (leafR rs c).1 by unfold rleafL; rw [E.out, if_pos rfl])
      have E2 := Lib.hid (show rleafV cells rs c = (leafR rs c).2 by unfold rleafV; rw [E.out, if_pos rfl])
      obtain ⟨Z, hZ⟩ : ∃ Z, costC c = Z := ⟨_, rfl⟩
      have HZ := Lib.hid hZ
      rw [hZ] at hf hcle
      have hfb : decide ((cells : Int) - (U : Int) < (Z : Int)) = false := decide_eq_false hf
      clear h5 h7 hnk he hU hZ
      rcases h5b with e5 | ⟨e5, en, hn⟩
      all_goals
        go_enter Tryd.func43, Tryd.ntmps43
        go_upto_region 1 with (fail)
        rw [HWA.out]
        go_wp2_with fail
        refine hrc.mono ?_
        rintro e w1 ⟨rfl, hb1⟩
        have c0c := cell_below hb1 c0b
        have k0 := cell_below hb1 d0
        have k1 := cell_below hb1 d1
        have k2 := cell_below hb1 d2
        have HB1 := Lib.hid (below_then HBA.out hb1)
        have HY1 := Lib.hid (HYA.out.below hb1)
        clear hb1
        go_wp2_with fail
        go_region_held3 (fun w' => w'.cell? ⟨ra, 0, none⟩ = some (.int .i64 (cells : Int)) ∧ w'.cell? ⟨w.heap.size, 0, none⟩ = some (.int .i64 c.kind) ∧ w'.cell? ⟨w.heap.size, 1, none⟩ = some (.int .i64 c.n) ∧ w'.cell? ⟨w.heap.size, 2, none⟩ = some (.string c.text) ∧ Below w1.heap.size w1 w')
          (first
            | exact ⟨c0c, k0, k1, k2, (Below.refl _ _).drew⟩
            | exact (fun hB' => ⟨cell_below hB' c0c, cell_below hB' k0, cell_below hB' k1, cell_below hB' k2, hB'⟩) (below_then (by assumption) hbc)
            | exact (fun hB' => ⟨cell_below hB' c0c, cell_below hB' k0, cell_below hB' k1, cell_below hB' k2, hB'⟩) (below_then (Below.drew (by assumption)) hbc)
            | go_keep)
          (first
            | (go_at_call 35; go_split_ands; refine (rcost_any c _ HC.out HE.out).mono ?_; rw [HZ.out]; rintro e wc ⟨rfl, hbc⟩)
            | (go_at_call 22; go_split_ands; refine (rused_any _ O ra cells rs (H.out.below (below_then HB1.out (by assumption))) HWR.out (by omega) (by rw [HU.out]; omega)).mono ?_; rw [HU.out]; rintro e wc ⟨rfl, hbc⟩))
        have hbe : Below w1.heap.size w1 wc := below_then (by assumption) hbc
        have m0 := cell_below hbe k0
        have m1 := cell_below hbe k1
        have m2 := cell_below hbe k2
        have HY2 := Lib.hid (HY1.out.below hbe)
        have HB2 := Lib.hid (below_then HB1.out hbe)
        have hlf := rleaf_any wc O ra cells rs c (H.out.below HB2.out) hrl
        obtain ⟨q, hq⟩ : ∃ q, leafR rs c = q := ⟨_, rfl⟩
        rw [hq] at hlf E1 E2
        unfold ValR.agg at hlf
        clear hbe hbc hq
        go_wp2_with fail
        refine hlf.mono ?_
        rintro e w3 ⟨rfl, hM⟩
        have BY : BlkIs w3 (w.heap.size + 1) #[.int .i64 0, .int .i64 0, .int .i64 0, .string ⟨#[]⟩] 39 := by
          obtain ⟨O', a1, a2, a3, a4⟩ := hM
          exact (a4.block _ HY2.out.lt (fun h => by have := HLIM.out _ h; omega)).trans HY2.out
        have z0 := BY.cell 0 (v := .int .i64 0) rfl
        have z1 := BY.cell 1 (v := .int .i64 0) rfl
        have z2 := BY.cell 2 (v := .int .i64 0) rfl
        have z3 := BY.cell 3 (v := .string ⟨#[]⟩) rfl
        have f0 := BY.frozen 0
        have f1 := BY.frozen 1
        have f2 := BY.frozen 2
        have f3 := BY.frozen 3
        have hbl1 := HY2.out.lt
        have HM := Lib.hid hM
        have BZ := Lib.hid (blk_set4 BY (.int .i64 q.2.obj) (.int .i64 q.2.cell.kind) (.int .i64 q.2.cell.n) (.string q.2.cell.text))
        clear hM hlf BY
        go_wp2
        obtain ⟨q0, q1, q2, q3⟩ := (⟨BZ.out.cell 0 rfl, BZ.out.cell 1 rfl, BZ.out.cell 2 rfl, BZ.out.cell 3 rfl⟩ : _ ∧ _ ∧ _ ∧ _)
        refine bodyPost_ret (v := .tuple #[.agg #[.int .i64 q.2.obj, .int .i64 q.2.cell.kind, .int .i64 q.2.cell.n, .string q.2.cell.text], .int .i64 0]) (by simp [results, Tryd.results43, go_sem, q0, q1, q2, q3]) rfl ?_
        rw [E.out, E1.out, E2.out]
        exact ⟨rfl, RMade.set HB2.out HM.out HLIM.out (fun k h => h) (b := w.heap.size + 1) (by omega) hbl1 (fr_set4 _ _ _ _)⟩
  · obtain ⟨x, hx⟩ : ∃ x, cellE c = x := ⟨_, rfl⟩
    have E := Lib.hid (show rleafE cells rs c = x by unfold rleafE; rw [if_neg hnk, if_pos he, hx])
    rw [hx] at hrc he
    have E1 := Lib.hid (show rleafL cells rs c = rs by unfold rleafL; rw [E.out, if_neg he])
    have E2 := Lib.hid (show rleafV cells rs c = ⟨0, zeroR⟩ by unfold rleafV; rw [E.out, if_neg he])
    have hb : (x != 0) = true := by simpa using he
    clear h5 h7 hnk he hx hU
    rcases h5b with e5 | ⟨e5, en, hn⟩
    all_goals
      go_enter Tryd.func43, Tryd.ntmps43
      go_upto_region 1 with (fail)
      rw [HWA.out]
      go_wp2_with fail
      refine hrc.mono ?_
      rintro e w1 ⟨rfl, hb1⟩
      have BY := HYA.out.below hb1
      have z0 := BY.cell 0 (v := .int .i64 0) rfl
      have z1 := BY.cell 1 (v := .int .i64 0) rfl
      have z2 := BY.cell 2 (v := .int .i64 0) rfl
      have z3 := BY.cell 3 (v := .string ⟨#[]⟩) rfl
      have f0 := BY.frozen 0
      have f1 := BY.frozen 1
      have f2 := BY.frozen 2
      have f3 := BY.frozen 3
      have hbl1 := BY.lt
      have BZ := Lib.hid (blk_set4 BY (.int .i64 0) (.int .i64 0) (.int .i64 0) (.string ⟨#[]⟩))
      have HB1 := Lib.hid (below_then HBA.out hb1)
      clear BY hb1
      go_wp2
      obtain ⟨q0, q1, q2, q3⟩ := (⟨BZ.out.cell 0 rfl, BZ.out.cell 1 rfl, BZ.out.cell 2 rfl, BZ.out.cell 3 rfl⟩ : _ ∧ _ ∧ _ ∧ _)
      refine bodyPost_ret (v := .tuple #[.agg #[.int .i64 0, .int .i64 0, .int .i64 0, .string ⟨#[]⟩], .int .i64 x]) (by simp [results, Tryd.results43, go_sem, q0, q1, q2, q3]) rfl ?_
      rw [E.out, E1.out, E2.out]
      exact ⟨rfl, RMade.set HB1.out (RMade.of_below (X := NoX) (H.out.below HB1.out) (Below.refl _ _)) HLIM.out (fun k h => h) (b := w.heap.size + 1) (by omega) hbl1 (fr_set4 _ _ _ _)⟩
end Go.Proofs.YtejcbpbhhofhlaaDoor.Tm

