/- Layer 3's reference: Hold. -/
import Derived.Test.YtejcbpbhhofhlaaDoorRgG
namespace Go.Proofs.YtejcbpbhhofhlaaDoor.Tm
open Go.RowKit
set_option linter.unusedVariables false
set_option linter.unusedSimpArgs false

def rholdE (cells : Nat) (rs : List ObjR) (c : CellD) (n : Nat) (ok : Bool) : Int := if c.kind = 5 ∧ 255 < n then 4 else if ok = false then 31 else if (cells : Int) - (usedR rs : Int) < (costC c : Int) then 30 else 0
def rholdL (cells : Nat) (rs : List ObjR) (c : CellD) (vs : List ValR) (ok : Bool) : List ObjR := if rholdE cells rs c vs.length ok = 0 then rs ++ [⟨c, vs⟩] else rs
def rholdV (cells : Nat) (rs : List ObjR) (c : CellD) (vs : List ValR) (ok : Bool) : ValR := if rholdE cells rs c vs.length ok = 0 then ⟨(rs.length : Int), c⟩ else ⟨0, zeroR⟩
theorem VReads.flat {w : World} {b o : Nat} {l : List ValR} (h : VReads w (some ⟨b, o, none⟩) l) : ∀ j u, (encVs l)[j]? = some u → w.cell? ((⟨b, o, none⟩ : Addr).add j) = some u := by
  intro j u hj
  have hlt : j < (encVs l).length := (List.getElem?_eq_some_iff.1 hj).1
  rw [encVs_len] at hlt
  have e : ((⟨b, o, none⟩ : Addr).add j) = ⟨b, o + j, none⟩ := by unfold Addr.add; split <;> simp_all
  rw [e]
  obtain ⟨b', o', e', h0, h1, h2, h3⟩ := h (j / 4) (by omega)
  obtain ⟨rfl, rfl⟩ : b = b' ∧ o = o' := by simpa using e'
  obtain ⟨e0, e1, e2, e3⟩ := encVs_at l (j / 4) (by omega)
  have hm : j % 4 = 0 ∨ j % 4 = 1 ∨ j % 4 = 2 ∨ j % 4 = 3 := by omega
  rcases hm with hm | hm | hm | hm
  · have ej : j = j / 4 * 4 := by omega
    rw [ej] at hj ⊢
    rw [e0] at hj
    rw [← hj]; exact h0
  · have ej : j = j / 4 * 4 + 1 := by omega
    have hj2 := hj
    rw [ej] at hj2 ⊢
    rw [e1] at hj2
    rw [← hj2, ← Nat.add_assoc]; exact h1
  · have ej : j = j / 4 * 4 + 2 := by omega
    have hj2 := hj
    rw [ej] at hj2 ⊢
    rw [e2] at hj2
    rw [← hj2, ← Nat.add_assoc]; exact h2
  · have ej : j = j / 4 * 4 + 3 := by omega
    have hj2 := hj
    rw [ej] at hj2 ⊢
    rw [e3] at hj2
    rw [← hj2, ← Nat.add_assoc]; exact h3
theorem Src.of_vreads {w : World} {A : Option Addr} {l : List ValR} (h : VReads w A l) : Src w 4 A l.length (encVs l) := by
  refine ⟨encVs_len l, fun e => ?_, fun ad e j u hj => ?_, fun u hu => ?_⟩
  · rcases Nat.eq_zero_or_pos l.length with h0 | h0
    · exact h0
    · obtain ⟨b, o, e', _⟩ := h 0 h0
      rw [e] at e'; cases e'
  · have hlt := (List.getElem?_eq_some_iff.1 hj).1
    rw [encVs_len] at hlt
    obtain ⟨b, o, e', _⟩ := h 0 (by omega)
    subst e'
    cases e
    exact h.flat j u hj
  · unfold encVs at hu
    obtain ⟨v, _, hv⟩ := List.mem_flatMap.1 hu
    simp [encV] at hv
    rcases hv with rfl | rfl | rfl | rfl <;> rfl
theorem RMade.set2 {w w1 w2 w3 : World} {O X : Nat → Prop} {ra cells : Nat} {rs : List ObjR} {b : Nat} (hB : Below w.heap.size w w1) (h : RMade w1 w2 O X ra cells rs) (hO : ∀ k, O k → k < w.heap.size) (hX : ∀ k, X k → w.heap.size ≤ k ∧ k ≠ b) (hb1 : w.heap.size ≤ b) (hb2 : b < w1.heap.size) (hF : Fr (fun k => k = b) w2 w3) :
    RMade w w3 O NoX ra cells rs := by
  obtain ⟨O', a1, a2, a3, a4⟩ := h
  have hs := hB.size
  have hnb : ¬ O' b := fun hk => by
    rcases a3 b hk with h | h | h
    · have := hO b h; omega
    · exact (hX b h).2 rfl
    · omega
  refine ⟨O', a1.fr1 hnb hF, a2, fun k hk => ?_, ?_⟩
  · rcases a3 k hk with h | h | h
    · exact .inl h
    · exact .inr (.inr (hX k h).1)
    · exact .inr (.inr (by omega))
  · exact ((Fr.of_below hB).trans a4).trans' hF fun k hk e => by omega
set_option maxHeartbeats 8000000 in
theorem rhold_any (w : World) (O : Nat → Prop) (ra cells : Nat) (rs : List ObjR) (c : CellD) (vs : List ValR) (AV : Option Addr) (cV : Nat) (ok : Bool) (h : RfAt w O ra cells rs) (hwr : ∀ o ∈ rs, WfC o.cell ∧ cellE o.cell = 0) (hrl : rs.length ≤ 1000000) (hru : usedR rs ≤ 1000000000) (hcl : cells ≤ 1000000000) (hw3 : 3 ≤ w.heap.size)
    (hv : VReads w AV vs) (hvl : vs.length ≤ 1000000) (hc : ¬ (c.kind = 5 ∧ 255 < vs.length) → cellE c = 0 ∧ WfC c) :
    Calls Tryd.prog 65 #[.pointer (some ⟨ra, 0, none⟩), .agg #[.int .i64 c.kind, .int .i64 c.n, .string c.text], .slice AV vs.length cV, .bool ok] w fun e w' => e = .returned (.tuple #[(rholdV cells rs c vs ok).agg, .int .i64 (rholdE cells rs c vs.length ok)]) ∧ RMade w w' O NoX ra cells (rholdL cells rs c vs ok) := by
  obtain ⟨wA, hwA⟩ : ∃ W, (w.alloc (.cells #[.int .i64 c.kind, .int .i64 c.n, .string c.text] 37)).alloc (.cells #[.int .i64 0, .int .i64 0, .int .i64 0, .string ⟨#[]⟩] 39) = W := ⟨_, rfl⟩
  have hBA : Below w.heap.size w wA := hwA ▸ below_alloc' (below_one w _) _
  have hXA : BlkIs wA w.heap.size #[.int .i64 c.kind, .int .i64 c.n, .string c.text] 37 := by
    rw [← hwA]
    exact (Below.heap_alloc _ _ _ (by rw [World.size_alloc]; omega)).trans (heap_new w _)
  have hYA : BlkIs wA (w.heap.size + 1) #[.int .i64 0, .int .i64 0, .int .i64 0, .string ⟨#[]⟩] 39 := by
    have := heap_new (w.alloc (.cells #[.int .i64 c.kind, .int .i64 c.n, .string c.text] 37)) (.cells #[.int .i64 0, .int .i64 0, .int .i64 0, .string ⟨#[]⟩] 39)
    rw [World.size_alloc, hwA] at this
    exact this
  have d0 := hXA.cell 0 (v := .int .i64 c.kind) rfl
  have d1 := hXA.cell 1 (v := .int .i64 c.n) rfl
  have d2 := hXA.cell 2 (v := .string c.text) rfl
  have HWA := Lib.hid hwA
  have HBA := Lib.hid hBA
  have HYA := Lib.hid hYA
  have H := Lib.hid h
  have HLIM := Lib.hid (fun k hk => (h.lim k hk).2)
  have HWR := Lib.hid hwr
  obtain ⟨c0, _⟩ : w.cell? ⟨ra, 0, none⟩ = some (.int .i64 (cells : Int)) ∧ True := by
    obtain ⟨_, _, hh⟩ := h
    exact ⟨hh.cells.1, trivial⟩
  have c0b := cell_below hBA c0
  obtain ⟨U, hU⟩ : ∃ U, usedR rs = U := ⟨_, rfl⟩
  have HU := Lib.hid hU
  have HV := Lib.hid hv
  rw [hU] at hru
  clear hwA hBA hXA hYA h hwr c0 hv
  by_cases h5 : c.kind = 5 ∧ 255 < vs.length
  · have e5 : (c.kind == 5) = true := by rw [h5.1]; rfl
    have en : decide ((255 : Int) < (vs.length : Int)) = true := decide_eq_true (by omega)
    have hn := h5.2
    have E := Lib.hid (show rholdE cells rs c vs.length ok = 4 by unfold rholdE; rw [if_pos h5])
    have E1 := Lib.hid (show rholdL cells rs c vs ok = rs by unfold rholdL; rw [E.out, if_neg (by omega)])
    have E2 := Lib.hid (show rholdV cells rs c vs ok = ⟨0, zeroR⟩ by unfold rholdV; rw [E.out, if_neg (by omega)])
    have BY := HYA.out
    have z0 := BY.cell 0 (v := .int .i64 0) rfl
    have z1 := BY.cell 1 (v := .int .i64 0) rfl
    have z2 := BY.cell 2 (v := .int .i64 0) rfl
    have z3 := BY.cell 3 (v := .string ⟨#[]⟩) rfl
    have f0 := BY.frozen 0
    have f1 := BY.frozen 1
    have f2 := BY.frozen 2
    have f3 := BY.frozen 3
    have hbl1 := BY.lt
    have BZ := Lib.hid (blk_set4 BY (.int .i64 0) (.int .i64 0) (.int .i64 0) (.string ⟨#[]⟩))
    clear BY h5 hU hc
    go_enter Tryd.func65, Tryd.ntmps65
    go_upto_region 1 with (fail)
    rw [HWA.out]
    go_wp2
    obtain ⟨q0, q1, q2, q3⟩ := (⟨BZ.out.cell 0 rfl, BZ.out.cell 1 rfl, BZ.out.cell 2 rfl, BZ.out.cell 3 rfl⟩ : _ ∧ _ ∧ _ ∧ _)
    refine bodyPost_ret (v := .tuple #[.agg #[.int .i64 0, .int .i64 0, .int .i64 0, .string ⟨#[]⟩], .int .i64 4]) (by simp [results, Tryd.results65, go_sem, q0, q1, q2, q3]) rfl ?_
    rw [E.out, E1.out, E2.out]
    exact ⟨rfl, RMade.set HBA.out (RMade.of_below (X := NoX) (H.out.below HBA.out) (Below.refl _ _)) HLIM.out (fun k h => h) (b := w.heap.size + 1) (by omega) hbl1 (fr_set4 _ _ _ _)⟩
  have h5b : ((c.kind == 5) = false) ∨ ((c.kind == 5) = true ∧ decide ((255 : Int) < (vs.length : Int)) = false ∧ ¬ 255 < vs.length) := by
    by_cases e : c.kind = 5
    · exact .inr ⟨by rw [e]; rfl, decide_eq_false (fun q => h5 ⟨e, by omega⟩), fun q => h5 ⟨e, q⟩⟩
    · exact .inl (beq_eq_false_iff_ne.2 e)
  obtain ⟨he, hcw⟩ := hc h5
  cases ok with
  | false =>
    have E := Lib.hid (show rholdE cells rs c vs.length false = 31 by unfold rholdE; rw [if_neg h5, if_pos rfl])
    have E1 := Lib.hid (show rholdL cells rs c vs false = rs by unfold rholdL; rw [E.out, if_neg (by omega)])
    have E2 := Lib.hid (show rholdV cells rs c vs false = ⟨0, zeroR⟩ by unfold rholdV; rw [E.out, if_neg (by omega)])
    have BY := HYA.out
    have z0 := BY.cell 0 (v := .int .i64 0) rfl
    have z1 := BY.cell 1 (v := .int .i64 0) rfl
    have z2 := BY.cell 2 (v := .int .i64 0) rfl
    have z3 := BY.cell 3 (v := .string ⟨#[]⟩) rfl
    have f0 := BY.frozen 0
    have f1 := BY.frozen 1
    have f2 := BY.frozen 2
    have f3 := BY.frozen 3
    have hbl1 := BY.lt
    have BZ := Lib.hid (blk_set4 BY (.int .i64 0) (.int .i64 0) (.int .i64 0) (.string ⟨#[]⟩))
    clear BY h5 hU hc he hcw
    rcases h5b with e5 | ⟨e5, en, hn⟩
    all_goals
      go_enter Tryd.func65, Tryd.ntmps65
      go_upto_region 1 with (fail)
      rw [HWA.out]
      go_wp2
      obtain ⟨q0, q1, q2, q3⟩ := (⟨BZ.out.cell 0 rfl, BZ.out.cell 1 rfl, BZ.out.cell 2 rfl, BZ.out.cell 3 rfl⟩ : _ ∧ _ ∧ _ ∧ _)
      refine bodyPost_ret (v := .tuple #[.agg #[.int .i64 0, .int .i64 0, .int .i64 0, .string ⟨#[]⟩], .int .i64 31]) (by simp [results, Tryd.results65, go_sem, q0, q1, q2, q3]) rfl ?_
      rw [E.out, E1.out, E2.out]
      exact ⟨rfl, RMade.set HBA.out (RMade.of_below (X := NoX) (H.out.below HBA.out) (Below.refl _ _)) HLIM.out (fun k h => h) (b := w.heap.size + 1) (by omega) hbl1 (fr_set4 _ _ _ _)⟩
  | true =>
    have HE := Lib.hid he
    have HC := Lib.hid hcw
    have hcle := Nat.le_trans (cost_le he) (Nat.add_le_add_left (kidsD_le c) 129)
    have wr1 : IntKind.i64.wrap ((cells : Int) - (U : Int)) = (cells : Int) - (U : Int) := by rw [IntKind.wrap_i64]; omega
    by_cases hf : (cells : Int) - (U : Int) < (costC c : Int)
    · have E := Lib.hid (show rholdE cells rs c vs.length true = 30 by unfold rholdE; rw [if_neg h5, if_neg (by simp), hU, if_pos hf])
      have E1 := Lib.hid (show rholdL cells rs c vs true = rs by unfold rholdL; rw [E.out, if_neg (by omega)])
      have E2 := Lib.hid (show rholdV cells rs c vs true = ⟨0, zeroR⟩ by unfold rholdV; rw [E.out, if_neg (by omega)])
      obtain ⟨Z, hZ⟩ : ∃ Z, costC c = Z := ⟨_, rfl⟩
      have HZ := Lib.hid hZ
      rw [hZ] at hf hcle
      have hfb : decide ((cells : Int) - (U : Int) < (Z : Int)) = true := decide_eq_true hf
      obtain ⟨w1, hw1⟩ : ∃ W, W = wA := ⟨_, rfl⟩
      subst hw1
      have c0c := c0b
      have k0 := d0
      have k1 := d1
      have k2 := d2
      have HB1 := HBA
      clear h5 hc he hcw hU hZ
      rcases h5b with e5 | ⟨e5, en, hn⟩
      all_goals
        go_enter Tryd.func65, Tryd.ntmps65
        go_upto_region 1 with (fail)
        rw [HWA.out]
        go_wp2_with fail
        go_region_held3 (fun w' => w'.cell? ⟨ra, 0, none⟩ = some (.int .i64 (cells : Int)) ∧ w'.cell? ⟨w.heap.size, 0, none⟩ = some (.int .i64 c.kind) ∧ w'.cell? ⟨w.heap.size, 1, none⟩ = some (.int .i64 c.n) ∧ w'.cell? ⟨w.heap.size, 2, none⟩ = some (.string c.text) ∧ Below w1.heap.size w1 w')
          (first
            | exact ⟨c0c, k0, k1, k2, (Below.refl _ _).drew⟩
            | exact (fun hB' => ⟨cell_below hB' c0c, cell_below hB' k0, cell_below hB' k1, cell_below hB' k2, hB'⟩) (below_then (by assumption) hbc)
            | exact (fun hB' => ⟨cell_below hB' c0c, cell_below hB' k0, cell_below hB' k1, cell_below hB' k2, hB'⟩) (below_then (Below.drew (by assumption)) hbc)
            | go_keep)
          (first
            | (go_at_call 35; go_split_ands; refine (rcost_any c _ HC.out HE.out).mono ?_; rw [HZ.out]; rintro e wc ⟨rfl, hbc⟩)
            | (go_at_call 22; go_split_ands; refine (rused_any _ O ra cells rs (H.out.below (below_then HB1.out (by assumption))) HWR.out (by omega) (by rw [HU.out]; omega)).mono ?_; rw [HU.out]; rintro e wc ⟨rfl, hbc⟩))
        have hbe : Below w1.heap.size w1 wc := below_then (by assumption) hbc
        have BY := HYA.out.below hbe
        have z0 := BY.cell 0 (v := .int .i64 0) rfl
        have z1 := BY.cell 1 (v := .int .i64 0) rfl
        have z2 := BY.cell 2 (v := .int .i64 0) rfl
        have z3 := BY.cell 3 (v := .string ⟨#[]⟩) rfl
        have f0 := BY.frozen 0
        have f1 := BY.frozen 1
        have f2 := BY.frozen 2
        have f3 := BY.frozen 3
        have hbl1 := BY.lt
        have BZ := Lib.hid (blk_set4 BY (.int .i64 0) (.int .i64 0) (.int .i64 0) (.string ⟨#[]⟩))
        have HB2 := Lib.hid (below_then HB1.out hbe)
        clear BY hbe hbc
        go_wp2
        obtain ⟨q0, q1, q2, q3⟩ := (⟨BZ.out.cell 0 rfl, BZ.out.cell 1 rfl, BZ.out.cell 2 rfl, BZ.out.cell 3 rfl⟩ : _ ∧ _ ∧ _ ∧ _)
        refine bodyPost_ret (v := .tuple #[.agg #[.int .i64 0, .int .i64 0, .int .i64 0, .string ⟨#[]⟩], .int .i64 30]) (by simp [results, Tryd.results65, go_sem, q0, q1, q2, q3]) rfl ?_
        rw [E.out, E1.out, E2.out]
        exact ⟨rfl, RMade.set HB2.out (RMade.of_below (X := NoX) (H.out.below HB2.out) (Below.refl _ _)) HLIM.out (fun k h => h) (b := w.heap.size + 1) (by omega) hbl1 (fr_set4 _ _ _ _)⟩
    · have E := Lib.hid (show rholdE cells rs c vs.length true = 0 by unfold rholdE; rw [if_neg h5, if_neg (by simp), hU, if_neg hf])
      have E1 := Lib.hid (show rholdL cells rs c vs true = rs ++ [⟨c, vs⟩] by unfold rholdL; rw [E.out, if_pos rfl])
      have E2 := Lib.hid (show rholdV cells rs c vs true = ⟨(rs.length : Int), c⟩ by unfold rholdV; rw [E.out, if_pos rfl])
      obtain ⟨Z, hZ⟩ : ∃ Z, costC c = Z := ⟨_, rfl⟩
      have HZ := Lib.hid hZ
      rw [hZ] at hf hcle
      have hfb : decide ((cells : Int) - (U : Int) < (Z : Int)) = false := decide_eq_false hf
      obtain ⟨w1, hw1⟩ : ∃ W, W = wA := ⟨_, rfl⟩
      subst hw1
      have c0c := c0b
      have k0 := d0
      have k1 := d1
      have k2 := d2
      have HB1 := HBA
      obtain ⟨i0, hi, hz0, hz1, hz2⟩ := info_parts val_info
      clear h5 hc he hcw hU hZ
      rcases h5b with e5 | ⟨e5, en, hn⟩
      all_goals
        go_enter Tryd.func65, Tryd.ntmps65
        go_upto_region 1 with (fail)
        rw [HWA.out]
        go_wp2_with fail
        go_region_held3 (fun w' => w'.cell? ⟨ra, 0, none⟩ = some (.int .i64 (cells : Int)) ∧ w'.cell? ⟨w.heap.size, 0, none⟩ = some (.int .i64 c.kind) ∧ w'.cell? ⟨w.heap.size, 1, none⟩ = some (.int .i64 c.n) ∧ w'.cell? ⟨w.heap.size, 2, none⟩ = some (.string c.text) ∧ Below w1.heap.size w1 w')
          (first
            | exact ⟨c0c, k0, k1, k2, (Below.refl _ _).drew⟩
            | exact (fun hB' => ⟨cell_below hB' c0c, cell_below hB' k0, cell_below hB' k1, cell_below hB' k2, hB'⟩) (below_then (by assumption) hbc)
            | exact (fun hB' => ⟨cell_below hB' c0c, cell_below hB' k0, cell_below hB' k1, cell_below hB' k2, hB'⟩) (below_then (Below.drew (by assumption)) hbc)
            | go_keep)
          (first
            | (go_at_call 35; go_split_ands; refine (rcost_any c _ HC.out HE.out).mono ?_; rw [HZ.out]; rintro e wc ⟨rfl, hbc⟩)
            | (go_at_call 22; go_split_ands; refine (rused_any _ O ra cells rs (H.out.below (below_then HB1.out (by assumption))) HWR.out (by omega) (by rw [HU.out]; omega)).mono ?_; rw [HU.out]; rintro e wc ⟨rfl, hbc⟩))
        have hbe : Below w1.heap.size w1 wc := below_then (by assumption) hbc
        have m0 := cell_below hbe k0
        have m1 := cell_below hbe k1
        have m2 := cell_below hbe k2
        have HY2 := Lib.hid (HYA.out.below hbe)
        have HB2 := Lib.hid (below_then HB1.out hbe)
        have hS := Lib.hid (Src.of_vreads (HV.out.below HB2.out))
        have hsz2 := HB2.out.size
        have hbl2 := HY2.out.lt
        clear hbe hbc
        go_wp2_with (at_builtin
                     refine wpList_app _ rfl _ _ _ rfl wc.heap.size _ i0 _ 4 40 Tryd.underlying97 hi hz0 hz1 hz2 rfl (by omega) (.slice none 0 0) 0 [] rfl (row_nil _ _ _ _) AV vs.length cV (encVs vs) rfl hS.out (by simp only [maxLen]; omega) (by omega) (Nat.le_refl _) ?_
                     intro v1 w3 hown3 hg3 hat3
                     rw [Nat.zero_add, List.nil_append] at hown3
                     have hB3 : Below wc.heap.size wc w3 := (Below.refl _ _).grown hg3 (Nat.le_refl _) (by simp [Value.ownBlock])
                     obtain ⟨A3, c3, rfl⟩ := row_slice hown3
                     have p0 := cell_below hB3 m0
                     have p1 := cell_below hB3 m1
                     have p2 := cell_below hB3 m2)
        have HB3 := Lib.hid (below_then HB2.out hB3)
        have HY3 := Lib.hid (HY2.out.below hB3)
        have hbase3 := row_base hown3
        have hlt3 := row_lt hown3
        have hmk := rmake_any w3 O ra cells rs ⟨c, vs⟩ A3 c3 (H.out.below HB3.out) (VReads.of_row hown3) (row_cap hown3) (fun b q e => ⟨fun ho => by
          have h1 := HLIM.out _ ho
          have h2 := hbase3 b (by rw [e]; rfl)
          omega, by
          have h2 := hbase3 b (by rw [e]; rfl)
          omega, hlt3 b (by rw [e]; rfl)⟩) hrl
        have HX : Hid (∀ k, (∃ q, A3 = some ⟨k, q, none⟩) → w.heap.size ≤ k ∧ k ≠ w.heap.size + 1) := Lib.hid (fun k ⟨q, e⟩ => by
          have h2 := hbase3 k (by rw [e]; rfl)
          omega)
        clear hB3 hg3 hat3 hown3 hbase3 hlt3 m0 m1 m2
        refine hmk.mono ?_
        rintro e w4 ⟨rfl, hM⟩
        have BY : BlkIs w4 (w.heap.size + 1) #[.int .i64 0, .int .i64 0, .int .i64 0, .string ⟨#[]⟩] 39 := by
          obtain ⟨O', a1, a2, a3, a4⟩ := hM
          exact (a4.block _ HY3.out.lt (fun h => by have := HLIM.out _ h; omega)).trans HY3.out
        have z0 := BY.cell 0 (v := .int .i64 0) rfl
        have z1 := BY.cell 1 (v := .int .i64 0) rfl
        have z2 := BY.cell 2 (v := .int .i64 0) rfl
        have z3 := BY.cell 3 (v := .string ⟨#[]⟩) rfl
        have f0 := BY.frozen 0
        have f1 := BY.frozen 1
        have f2 := BY.frozen 2
        have f3 := BY.frozen 3
        have hbl1 := HY3.out.lt
        have HM := Lib.hid hM
        have BZ := Lib.hid (blk_set4 BY (.int .i64 (rs.length : Int)) (.int .i64 c.kind) (.int .i64 c.n) (.string c.text))
        clear hM hmk BY
        go_wp2
        obtain ⟨q0, q1, q2, q3⟩ := (⟨BZ.out.cell 0 rfl, BZ.out.cell 1 rfl, BZ.out.cell 2 rfl, BZ.out.cell 3 rfl⟩ : _ ∧ _ ∧ _ ∧ _)
        refine bodyPost_ret (v := .tuple #[.agg #[.int .i64 (rs.length : Int), .int .i64 c.kind, .int .i64 c.n, .string c.text], .int .i64 0]) (by simp [results, Tryd.results65, go_sem, q0, q1, q2, q3]) rfl ?_
        rw [E.out, E1.out, E2.out]
        exact ⟨rfl, RMade.set2 HB3.out HM.out HLIM.out HX.out (b := w.heap.size + 1) (by omega) hbl1 (fr_set4 _ _ _ _)⟩
end Go.Proofs.YtejcbpbhhofhlaaDoor.Tm

