/- Layer 3's reference: Put. -/
import Derived.Test.YtejcbpbhhofhlaaDoorRfE
import Derived.Test.YtejcbpbhhofhlaaDoorMidA
import Derived.BigQuiet
namespace Go.Proofs.YtejcbpbhhofhlaaDoor.Tm
open Go.RowKit
set_option linter.unusedVariables false
set_option linter.unusedSimpArgs false

theorem lay_ok : ∀ f, LayOk f
  | 0 => by
    intro w O ra cells rs t A cap htf _ _ hg
    exact absurd (good_len hg) (by omega)
  | f + 1 => lay_step f (lay_ok f)
theorem good_cells2 : ∀ {l : List CellD} {o : Int}, Good l o → ∀ c ∈ l, cellE c = 0
  | [], _, _, c, hc => by cases hc
  | a :: l, o, g, c, hc => by
    rcases List.mem_cons.1 hc with rfl | hc
    · exact g.1
    · exact good_cells2 g.2.2 c hc
theorem total_le2 : ∀ {l : List CellD}, (∀ c ∈ l, cellE c = 0) → totalA l ≤ 384 * l.length
  | [], _ => by simp [totalA]
  | c :: l, h => by
    have h1 := cost_le (h c (by simp))
    have h2 := kidsD_le c
    have h3 := total_le2 (l := l) (fun x hx => h x (by simp [hx]))
    simp [totalA] at h3 ⊢
    omega
/-- What the reference's Put answers. -/
def rputE (cells : Nat) (rs : List ObjR) (t : List CellD) : Int := if (rightE t).1 ≠ 0 then (rightE t).1 else if (cells : Int) - (usedR rs : Int) < (totalA t : Int) then 30 else 0
def rputL (cells : Nat) (rs : List ObjR) (t : List CellD) : List ObjR := if rputE cells rs t = 0 then (layR t.length rs t).1 else rs
def rputV (cells : Nat) (rs : List ObjR) (t : List CellD) : ValR := if rputE cells rs t = 0 then (layR t.length rs t).2 else ⟨0, zeroR⟩
theorem RMade.pre {w w1 w2 : World} {O X : Nat → Prop} {ra cells : Nat} {rs : List ObjR} (hB : Below w.heap.size w w1) (h : RMade w1 w2 O X ra cells rs) : RMade w w2 O X ra cells rs := by
  obtain ⟨O', a1, a2, a3, a4⟩ := h
  have hs := hB.size
  exact ⟨O', a1, a2, fun k hk => (a3 k hk).imp id (fun h => h.imp id (fun h => by omega)), (Fr.of_below hB).trans a4⟩
set_option maxHeartbeats 4000000 in
theorem rput_any (w : World) (O : Nat → Prop) (ra cells : Nat) (rs : List ObjR) (t : List CellD) (A : Option Addr) (cap : Nat) (h : RfAt w O ra cells rs) (hwr : ∀ o ∈ rs, WfC o.cell ∧ cellE o.cell = 0) (hrl : rs.length + 1024 ≤ 1000000) (hru : usedR rs ≤ 1000000000) (hcl : cells ≤ 1000000000) (hr : Reads w A t) (hcap : t.length ≤ cap)
    (hA : t.length ≠ 0 → ∀ g o, A = some ⟨g, o, none⟩ → ¬ O g) (hwf : ∀ j (h : j < t.length), WfC t[j]) (hl : t.length ≤ 1000000000000000) :
    Calls Tryd.prog 10 #[.pointer (some ⟨ra, 0, none⟩), .slice A t.length cap] w fun e w' => e = .returned (.tuple #[(rputV cells rs t).agg, .int .i64 (rputE cells rs t)]) ∧ RMade w w' O NoX ra cells (rputL cells rs t) := by
  have hB0 := below_one w (.cells #[.int .i64 0, .int .i64 0, .int .i64 0, .string ⟨#[]⟩] 39)
  have hrt := rright_any t A cap (w.alloc (.cells #[.int .i64 0, .int .i64 0, .int .i64 0, .string ⟨#[]⟩] 39)) (hr.below hB0) (fun j hj => (hwf j hj).text) hl
  have BY0 : BlkIs (w.alloc (.cells #[.int .i64 0, .int .i64 0, .int .i64 0, .string ⟨#[]⟩] 39)) w.heap.size #[.int .i64 0, .int .i64 0, .int .i64 0, .string ⟨#[]⟩] 39 := heap_new w _
  have hlim := Lib.hid (fun k hk => (h.lim k hk).2)
  have H := Lib.hid h
  have HWR := Lib.hid hwr
  have HR := Lib.hid hr
  have HA := Lib.hid hA
  have HW := Lib.hid hwf
  have HB0 := Lib.hid hB0
  have HY0 := Lib.hid BY0
  obtain ⟨y, hy⟩ : ∃ y, (rightE t).2 = y := ⟨_, rfl⟩
  rw [hy] at hrt
  by_cases he : (rightE t).1 = 0
  · obtain ⟨hg, h0, h1⟩ := rightE_ok he
    rw [he] at hrt
    have hce := good_cells2 hg
    have htt := total_le2 hce
    have HG := Lib.hid hg
    have HCE := Lib.hid hce
    have e1 : rputE cells rs t = if (cells : Int) - (usedR rs : Int) < (totalA t : Int) then 30 else 0 := by unfold rputE; rw [if_neg (by omega)]
    clear h hwr hr hA hwf hB0 BY0 hy he hg hce
    obtain ⟨c0, _⟩ : w.cell? ⟨ra, 0, none⟩ = some (.int .i64 (cells : Int)) ∧ True := by
      obtain ⟨_, _, hh⟩ := H.out
      exact ⟨hh.cells.1, trivial⟩
    have c0b := cell_below HB0.out c0
    obtain ⟨T, hT⟩ : ∃ T, totalA t = T := ⟨_, rfl⟩
    obtain ⟨U, hU⟩ : ∃ U, usedR rs = U := ⟨_, rfl⟩
    rw [hT, hU] at e1
    rw [hT] at htt
    rw [hU] at hru
    have HTU := Lib.hid (⟨hT, hU⟩ : totalA t = T ∧ usedR rs = U)
    have wr1 : IntKind.i64.wrap ((cells : Int) - (U : Int)) = (cells : Int) - (U : Int) := by rw [IntKind.wrap_i64]; omega
    clear hT hU
    by_cases hf : (cells : Int) - (U : Int) < (T : Int)
    · have hfb : decide ((cells : Int) - (U : Int) < (T : Int)) = true := decide_eq_true hf
      rw [if_pos hf] at e1
      have HP := Lib.hid (⟨e1, by unfold rputL; rw [e1, if_neg (by omega)], by unfold rputV; rw [e1, if_neg (by omega)]⟩ : rputE cells rs t = 30 ∧ rputL cells rs t = rs ∧ rputV cells rs t = ⟨0, zeroR⟩)
      clear e1 hf
      go_enter Tryd.func10, Tryd.ntmps10
      go_wp2_with fail
      refine hrt.mono ?_
      rintro e w1 ⟨rfl, hb1⟩
      have c0c := cell_below hb1 c0b
      have HB1 := Lib.hid (below_then HB0.out hb1)
      have HY1 := Lib.hid (HY0.out.below hb1)
      clear hb1 hrt c0 c0b
      go_wp2_with fail
      go_region_held3 (fun w' => w'.cell? ⟨ra, 0, none⟩ = some (.int .i64 (cells : Int)) ∧ Below w1.heap.size w1 w')
        (first
          | exact ⟨c0c, (Below.refl _ _).drew⟩
          | exact (fun hB' => ⟨cell_below hB' c0c, hB'⟩) (below_then (by assumption) hbc)
          | exact (fun hB' => ⟨cell_below hB' c0c, hB'⟩) (below_then (Below.drew (by assumption)) hbc)
          | go_keep)
        (first
          | (go_at_call 11; go_split_ands; refine (rtotal_any t A cap _ (HR.out.below (below_then HB1.out (by assumption))) HW.out HCE.out hl (by rw [HTU.out.1]; omega)).mono ?_; rw [HTU.out.1]; rintro e wc ⟨rfl, hbc⟩)
          | (go_at_call 22; go_split_ands; refine (rused_any _ O ra cells rs (H.out.below (below_then HB1.out (by assumption))) HWR.out (by omega) (by rw [HTU.out.2]; omega)).mono ?_; rw [HTU.out.2]; rintro e wc ⟨rfl, hbc⟩))
      have hbe : Below w1.heap.size w1 wc := below_then (by assumption) hbc
      have BY := HY1.out.below hbe
      have z0 := BY.cell 0 (v := .int .i64 0) rfl
      have z1 := BY.cell 1 (v := .int .i64 0) rfl
      have z2 := BY.cell 2 (v := .int .i64 0) rfl
      have z3 := BY.cell 3 (v := .string ⟨#[]⟩) rfl
      have f0 := BY.frozen 0
      have f1 := BY.frozen 1
      have f2 := BY.frozen 2
      have f3 := BY.frozen 3
      have hbl1 := BY.lt
      have BZ := Lib.hid (blk_set4 BY (.int .i64 0) (.int .i64 0) (.int .i64 0) (.string ⟨#[]⟩))
      have HB2 := Lib.hid (below_then HB1.out hbe)
      clear BY hbe hbc
      go_wp2
      obtain ⟨q0, q1, q2, q3⟩ := (⟨BZ.out.cell 0 rfl, BZ.out.cell 1 rfl, BZ.out.cell 2 rfl, BZ.out.cell 3 rfl⟩ : _ ∧ _ ∧ _ ∧ _)
      refine bodyPost_ret (v := .tuple #[.agg #[.int .i64 0, .int .i64 0, .int .i64 0, .string ⟨#[]⟩], .int .i64 30]) (by simp [results, Tryd.results10, go_sem, q0, q1, q2, q3]) rfl ?_
      rw [HP.out.1, HP.out.2.1, HP.out.2.2]
      exact ⟨rfl, RMade.set HB2.out (RMade.of_below (X := NoX) (H.out.below HB2.out) (Below.refl _ _)) hlim.out (fun k h => h) (b := w.heap.size) (Nat.le_refl _) hbl1 (fr_set4 _ _ _ _)⟩
    · have hfb : decide ((cells : Int) - (U : Int) < (T : Int)) = false := decide_eq_false hf
      rw [if_neg hf] at e1
      have HP := Lib.hid (⟨e1, by unfold rputL; rw [e1, if_pos rfl], by unfold rputV; rw [e1, if_pos rfl]⟩ : rputE cells rs t = 0 ∧ rputL cells rs t = (layR t.length rs t).1 ∧ rputV cells rs t = (layR t.length rs t).2)
      clear e1 hf
      go_enter Tryd.func10, Tryd.ntmps10
      go_wp2_with fail
      refine hrt.mono ?_
      rintro e w1 ⟨rfl, hb1⟩
      have c0c := cell_below hb1 c0b
      have HB1 := Lib.hid (below_then HB0.out hb1)
      have HY1 := Lib.hid (HY0.out.below hb1)
      clear hb1 hrt c0 c0b
      go_wp2_with fail
      go_region_held3 (fun w' => w'.cell? ⟨ra, 0, none⟩ = some (.int .i64 (cells : Int)) ∧ Below w1.heap.size w1 w')
        (first
          | exact ⟨c0c, (Below.refl _ _).drew⟩
          | exact (fun hB' => ⟨cell_below hB' c0c, hB'⟩) (below_then (by assumption) hbc)
          | exact (fun hB' => ⟨cell_below hB' c0c, hB'⟩) (below_then (Below.drew (by assumption)) hbc)
          | go_keep)
        (first
          | (go_at_call 11; go_split_ands; refine (rtotal_any t A cap _ (HR.out.below (below_then HB1.out (by assumption))) HW.out HCE.out hl (by rw [HTU.out.1]; omega)).mono ?_; rw [HTU.out.1]; rintro e wc ⟨rfl, hbc⟩)
          | (go_at_call 22; go_split_ands; refine (rused_any _ O ra cells rs (H.out.below (below_then HB1.out (by assumption))) HWR.out (by omega) (by rw [HTU.out.2]; omega)).mono ?_; rw [HTU.out.2]; rintro e wc ⟨rfl, hbc⟩))
      have hbe : Below w1.heap.size w1 wc := below_then (by assumption) hbc
      have BY := Lib.hid (HY1.out.below hbe)
      have HB2 := Lib.hid (below_then HB1.out hbe)
      have hlay := lay_ok t.length wc O ra cells rs t A cap (Nat.le_refl _) h1 hcap HG.out (H.out.below HB2.out) (HR.out.below HB2.out) (HA.out h0) (by omega)
      obtain ⟨q, hq⟩ : ∃ q, layR t.length rs t = q := ⟨_, rfl⟩
      rw [hq] at hlay HP
      unfold ValR.agg at hlay
      clear hbe hbc hq
      go_wp2_with fail
      refine hlay.mono ?_
      rintro e w3 ⟨rfl, hM⟩
      have hbl1 := BY.out.lt
      have BY2 : BlkIs w3 w.heap.size #[.int .i64 0, .int .i64 0, .int .i64 0, .string ⟨#[]⟩] 39 := by
        obtain ⟨O', a1, a2, a3, a4⟩ := hM
        exact (a4.block _ hbl1 (fun h => by have := hlim.out _ h; omega)).trans BY.out
      have z0 := BY2.cell 0 (v := .int .i64 0) rfl
      have z1 := BY2.cell 1 (v := .int .i64 0) rfl
      have z2 := BY2.cell 2 (v := .int .i64 0) rfl
      have z3 := BY2.cell 3 (v := .string ⟨#[]⟩) rfl
      have f0 := BY2.frozen 0
      have f1 := BY2.frozen 1
      have f2 := BY2.frozen 2
      have f3 := BY2.frozen 3
      have HM := Lib.hid hM
      have BZ := Lib.hid (blk_set4 BY2 (.int .i64 q.2.obj) (.int .i64 q.2.cell.kind) (.int .i64 q.2.cell.n) (.string q.2.cell.text))
      clear hM hlay BY2
      go_wp2
      obtain ⟨q0, q1, q2, q3⟩ := (⟨BZ.out.cell 0 rfl, BZ.out.cell 1 rfl, BZ.out.cell 2 rfl, BZ.out.cell 3 rfl⟩ : _ ∧ _ ∧ _ ∧ _)
      refine bodyPost_ret (v := .tuple #[.agg #[.int .i64 q.2.obj, .int .i64 q.2.cell.kind, .int .i64 q.2.cell.n, .string q.2.cell.text], .int .i64 0]) (by simp [results, Tryd.results10, go_sem, q0, q1, q2, q3]) rfl ?_
      rw [HP.out.1, HP.out.2.1, HP.out.2.2]
      exact ⟨rfl, RMade.set HB2.out HM.out hlim.out (fun k h => h) (b := w.heap.size) (Nat.le_refl _) hbl1 (fr_set4 _ _ _ _)⟩
  · obtain ⟨x, hx⟩ : ∃ x, (rightE t).1 = x := ⟨_, rfl⟩
    have e1 : rputE cells rs t = (rightE t).1 := by unfold rputE; rw [if_pos he]
    have HP := Lib.hid (⟨e1.trans hx, by unfold rputL; rw [e1, if_neg he], by unfold rputV; rw [e1, if_neg he]⟩ : rputE cells rs t = x ∧ rputL cells rs t = rs ∧ rputV cells rs t = ⟨0, zeroR⟩)
    rw [hx] at hrt he
    have hb : (x != 0) = true := by simpa using he
    clear h hwr hr hA hwf hB0 BY0 hy he e1 hx
    go_enter Tryd.func10, Tryd.ntmps10
    go_wp2_with fail
    refine hrt.mono ?_
    rintro e w1 ⟨rfl, hb1⟩
    have BY := HY0.out.below hb1
    have z0 := BY.cell 0 (v := .int .i64 0) rfl
    have z1 := BY.cell 1 (v := .int .i64 0) rfl
    have z2 := BY.cell 2 (v := .int .i64 0) rfl
    have z3 := BY.cell 3 (v := .string ⟨#[]⟩) rfl
    have f0 := BY.frozen 0
    have f1 := BY.frozen 1
    have f2 := BY.frozen 2
    have f3 := BY.frozen 3
    have hbl1 := BY.lt
    have BZ := Lib.hid (blk_set4 BY (.int .i64 0) (.int .i64 0) (.int .i64 0) (.string ⟨#[]⟩))
    have HB1 := Lib.hid (below_then HB0.out hb1)
    clear BY hb1 hrt
    go_wp2
    obtain ⟨q0, q1, q2, q3⟩ := (⟨BZ.out.cell 0 rfl, BZ.out.cell 1 rfl, BZ.out.cell 2 rfl, BZ.out.cell 3 rfl⟩ : _ ∧ _ ∧ _ ∧ _)
    refine bodyPost_ret (v := .tuple #[.agg #[.int .i64 0, .int .i64 0, .int .i64 0, .string ⟨#[]⟩], .int .i64 x]) (by simp [results, Tryd.results10, go_sem, q0, q1, q2, q3]) rfl ?_
    rw [HP.out.1, HP.out.2.1, HP.out.2.2]
    exact ⟨rfl, RMade.set HB1.out (RMade.of_below (X := NoX) (H.out.below HB1.out) (Below.refl _ _)) hlim.out (fun k h => h) (b := w.heap.size) (Nat.le_refl _) hbl1 (fr_set4 _ _ _ _)⟩
end Go.Proofs.YtejcbpbhhofhlaaDoor.Tm
