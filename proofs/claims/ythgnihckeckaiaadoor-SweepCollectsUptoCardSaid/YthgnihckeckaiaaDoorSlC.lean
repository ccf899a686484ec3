/- SweepCollects: the walk. -/
import Derived.Test.YthgnihckeckaiaaDoorSwZ
import Derived.Test.YthgnihckeckaiaaDoorSwA
import Derived.Test.YthgnihckeckaiaaDoorSwB
import Derived.Test.YthgnihckeckaiaaDoorSwV
import Derived.Test.YthgnihckeckaiaaDoorSwF
import Derived.Test.YthgnihckeckaiaaDoorSwK
namespace Go.Proofs.YthgnihckeckaiaaDoor.Tm
open Go.RowKit Go.Shelf
set_option linter.unusedVariables false
set_option linter.unusedSimpArgs false

set_option maxRecDepth 10000 in
set_option maxHeartbeats 16000000 in
theorem sweepCollects_row (A : Option Addr) (cap : Nat) (ops : List Op4) (A1 : Option Addr) (cap1 : Nat) (rs : List RootD) (n : Int) (w : World) (hT : TabsA w) (hcap : ops.length ≤ cap) (hr : Script4 w A ops) (hk : ∀ op ∈ ops, Op4Ok op) (hl : ops.length ≤ 1000000000000000) (hcap1 : rs.length ≤ cap1) (hrr : RtReads w A1 rs) (hrk : ∀ j (h : j < rs.length), RootOk rs[j]) (hrl : rs.length ≤ 1048576) (wn : (Lit.int .i64 n).wf = true) :
    Calls Tryd.prog 15 #[.slice A ops.length cap, .slice A1 rs.length cap1, .int .i64 n] w fun e w' => e = .returned (.bool true) ∧ Below w.heap.size w w' := by
  have hn : -9223372036854775808 ≤ n ∧ n < 9223372036854775808 := by simp [Lit.wf, IntKind.min, IntKind.max] at wn; simp [IntKind.signed, IntKind.bits] at wn; omega
  have hmk := smade_any w ops A cap hT hr hk hl hcap
  have HT := Lib.hid hT
  have HRR := Lib.hid hrr
  have HRK := Lib.hid hrk
  have hkn := fun V (hb : Below w.heap.size w V) => sknown_any V (hT.below hb)
  have HK := Lib.hid hkn
  clear hT hr hk hrr hrk hkn wn
  go_enter Tryd.func15, Tryd.ntmps15
  go_wp2_with fail
  refine hmk.mono ?_
  rintro e w1 ⟨ba, O, L, rfl, hS⟩
  have HS := Lib.hid hS
  have hch := chosen23_any w1 O ba 20000 L rs A1 cap1 hS.ar (HRR.out.below hS.base) HRK.out (by omega)
  clear hmk hS
  go_wp2_with fail
  refine hch.mono ?_
  rintro e w2 ⟨A2, c2, r, rfl, hC⟩
  have HB2 := Lib.hid (below_then HS.out.base hC.base)
  have HR2 := Lib.hid (WReads.of_row hC.row)
  have hrlen := hC.len
  have HRNG := Lib.hid hC.rng
  have HA2 := Lib.hid (HS.out.ar.below hC.base)
  have HCELLS := Lib.hid HS.out.cells
  have hrle : r.length ≤ 1048576 := by omega
  have hul := HA2.out.lims
  have hll := HA2.out.wf.len
  have hwl : (wordsA 0 L).length ≤ 262144 := by rw [wordsA_len]; omega
  have hal := sall_any w2 O ba 20000 L HA2.out
  have hal' := fun V (hb : Below w2.heap.size w2 V) => sall_any V O ba 20000 L (HA2.out.below hb)
  have hus' := fun V (hb : Below w2.heap.size w2 V) => used_same V O ba 20000 L (HA2.out.below hb)
  obtain ⟨WS, hWS⟩ : ∃ WS, wordsA 0 L = WS := ⟨_, rfl⟩
  obtain ⟨U, hU⟩ : ∃ U, usedA L = U := ⟨_, rfl⟩
  simp only [hWS] at hal hal' hwl
  simp only [hU] at hus'
  have HAL := Lib.hid hal'
  have HUS := Lib.hid hus'
  have huu : ((U : Int) != (U : Int)) = false := by simp
  clear hch hC hrlen hal' hus' hWS hU
  go_wp2_with fail
  refine hal.mono ?_
  rintro e w3 ⟨A3, c3, rfl, hrow3, hb3⟩
  have HR3 := Lib.hid (WReads.of_row hrow3)
  have HB3 := Lib.hid hb3
  have hus := HUS.out w3 hb3
  clear hal hrow3 hb3
  go_wp2_with fail
  refine hus.mono ?_
  rintro e w3' ⟨rfl, hw3'⟩
  subst hw3'
  have hlrc := lreach_any w3 O ba 20000 L r A2 c2 (HA2.out.below HB3.out) (HR2.out.below HB3.out) HRNG.out (by omega)
  have e30 : ((30 : Int) != 30) = false := rfl
  have e31 : ((31 : Int) != 31) = false := rfl
  have e11 : ((1 : Int) != 1) = false := rfl
  have e00 : ((0 : Int) != 0) = false := rfl
  have f30 : ((30 : Int) != 0) = true := rfl
  have f31 : ((31 : Int) != 0) = true := rfl
  have f11 : ((1 : Int) != 0) = true := rfl
  clear hus
  by_cases hall : allFind L r = true
  · have hX0 : rchX L r = rchW L r := by unfold rchX; rw [if_pos hall]
    have hxo : ∀ x ∈ r, FindOk L x := fun x q => ⟨(List.all_eq_true.1 hall) x q, HRNG.out x q⟩
    have HXO := Lib.hid hxo
    have hrch := rch_ok HA2.out.wf hxo
    have hrok := hrch.met
    have hRl := hrok.len
    rw [hall, hX0] at hlrc
    have hcs := fun V (hb : Below w2.heap.size w2 V) A c (hr : WReads V A (rchW L r)) => scost_any V O ba 20000 L (rchW L r) A c (HA2.out.below hb) (HT.out.below (below_then HB2.out hb)) HCELLS.out hr (fun x hx => (hrok.ok x hx).1) (by omega)
    have HALL := Lib.hid hall
    have HRCH := Lib.hid hrch
    have hcfull := fun V (hb : Below w2.heap.size w2 V) N (h1 : N ≤ 262144) (h2 : N < costsW L (rchW L r)) => collect_full V O ba 20000 L r A2 c2 N (HA2.out.below hb) (HT.out.below (below_then HB2.out hb)) HCELLS.out (HR2.out.below hb) HRNG.out (by omega) HALL.out h1 h2
    have hcgood := fun V (hb : Below w2.heap.size w2 V) N (h1 : N ≤ 262144) (h2 : costsW L (rchW L r) ≤ N) => collect_any V O ba 20000 L r A2 c2 N (HA2.out.below hb) (HT.out.below (below_then HB2.out hb)) HCELLS.out (HR2.out.below hb) HRNG.out (by omega) HALL.out h1 h2
    have hcol := fun (h : costsW L (rchW L r) ≤ 262144) => col_ok HA2.out.wf (by omega) HCELLS.out hrch.weak h
    have hroot : ∀ x ∈ r, ptrW x = true → x ∈ rchW L r := hrch.roots
    have HROOT := Lib.hid hroot
    obtain ⟨C, hC⟩ : ∃ C, costsW L (rchW L r) = C := ⟨_, rfl⟩
    have HC0 := Lib.hid hC
    simp only [hC] at hcs hcfull hcgood hcol
    have HCS := Lib.hid hcs
    have HCF := Lib.hid hcfull
    have HCG := Lib.hid hcgood
    have HCOL := Lib.hid hcol
    clear hcs hcfull hcgood hcol hall hX0 hxo hrch hrok hroot hC
    go_wp2_with fail
    refine hlrc.mono ?_
    rintro e w4 ⟨A4, c4, rfl, hrow4, hb4⟩
    have HR4 := Lib.hid (WReads.of_row hrow4)
    have HB4 := Lib.hid (below_then HB3.out hb4)
    have HR34 := Lib.hid (HR3.out.below hb4)
    clear hlrc hrow4 hb4
    by_cases hbad : n < 0 ∨ 262144 < n
    · have hcl := collect_arg w4 O ba 20000 L r A2 c2 n (HA2.out.below HB4.out) (HT.out.below (below_then HB2.out HB4.out)) HCELLS.out (HR2.out.below HB4.out) HRNG.out (by omega) HALL.out hbad
      go_wp2_with fail
      refine hcl.mono ?_
      rintro e w5 ⟨rfl, hb5⟩
      have HB5 := Lib.hid (below_then HB4.out hb5)
      have HR35 := Lib.hid (HR34.out.below hb5)
      clear hb5
      have hal2 := HAL.out w5 HB5.out
      clear hcl
      go_wp2_with fail
      refine hal2.mono ?_
      rintro e w6 ⟨A6, c6, rfl, hrow6, hb6⟩
      have HR6 := Lib.hid (WReads.of_row hrow6)
      have HB6 := Lib.hid (below_then HB5.out hb6)
      have HR36 := Lib.hid ((HR35.out).below hb6)
      have HBS6 := Lib.hid hb6
      have hsw := swords_any w6 WS A6 A3 c6 c3 HR6.out HR36.out (by omega)
      clear hal2 hrow6 hb6
      go_wp2_with fail
      refine hsw.mono ?_
      rintro e w7 ⟨rfl, hb7⟩
      have HB7 := Lib.hid (below_then HB6.out hb7)
      have HBS7 := Lib.hid (below_then HBS6.out hb7)
      have hus := HUS.out w7 HB7.out
      clear hsw hb7
      go_wp2_with fail
      refine hus.mono ?_
      rintro e w7' ⟨rfl, hw7'⟩
      subst hw7'
      clear hus
      by_cases hneg : n < 0
      · have hd : decide (n < 0) = true := decide_eq_true hneg
        clear hbad
        have hkk := HK.out w7 (below_then HB2.out HB7.out)
        go_wp2_with fail
        refine hkk.mono ?_
        rintro e wz ⟨rfl, hbz⟩
        go_wp2
        go_ret
        exact ⟨rfl, below_then (below_then HB2.out HB7.out) hbz⟩
      · have hd : decide (n < 0) = false := decide_eq_false hneg
        have hbig : 262144 < n := by omega
        have hd2 : decide (262144 < n) = true := decide_eq_true hbig
        clear hbad
        have hkk := HK.out w7 (below_then HB2.out HB7.out)
        go_wp2_with fail
        refine hkk.mono ?_
        rintro e wz ⟨rfl, hbz⟩
        go_wp2
        go_ret
        exact ⟨rfl, below_then (below_then HB2.out HB7.out) hbz⟩
    · obtain ⟨N, rfl⟩ : ∃ N : Nat, n = N := ⟨n.toNat, by omega⟩
      have hN : N ≤ 262144 := by omega
      have hd : decide ((N : Int) < 0) = false := decide_eq_false (by omega)
      have hd2 : decide (262144 < (N : Int)) = false := decide_eq_false (by omega)
      have hd3 : ¬ 262144 < N := by omega
      have hd4 : ¬ 262144 < (N : Int) := by omega
      have hd5 : ¬ (N : Int) < 0 := by omega
      clear hbad
      by_cases hfit : N < C
      · have hcl := HCF.out w4 HB4.out N hN hfit
        go_wp2_with fail
        refine hcl.mono ?_
        rintro e w5 ⟨rfl, hb5⟩
        have HB5 := Lib.hid (below_then HB4.out hb5)
        have HR35 := Lib.hid (HR34.out.below hb5)
        have HB45 := Lib.hid hb5
        clear hb5
        have hal2 := HAL.out w5 HB5.out
        clear hcl
        go_wp2_with fail
        refine hal2.mono ?_
        rintro e w6 ⟨A6, c6, rfl, hrow6, hb6⟩
        have HR6 := Lib.hid (WReads.of_row hrow6)
        have HB6 := Lib.hid (below_then HB5.out hb6)
        have HR36 := Lib.hid ((HR35.out).below hb6)
        have HBS6 := Lib.hid hb6
        have hsw := swords_any w6 WS A6 A3 c6 c3 HR6.out HR36.out (by omega)
        clear hal2 hrow6 hb6
        go_wp2_with fail
        refine hsw.mono ?_
        rintro e w7 ⟨rfl, hb7⟩
        have HB7 := Lib.hid (below_then HB6.out hb7)
        have HBS7 := Lib.hid (below_then HBS6.out hb7)
        have hus := HUS.out w7 HB7.out
        clear hsw hb7
        go_wp2_with fail
        refine hus.mono ?_
        rintro e w7' ⟨rfl, hw7'⟩
        subst hw7'
        clear hus
        have hc8 := HCS.out w7 HB7.out A4 c4 (HR4.out.below (below_then HB45.out HBS7.out))
        have hfi : decide ((N : Int) < (C : Int)) = true := decide_eq_true (by omega)
        have hfi2 : (N : Int) < (C : Int) := by omega
        go_wp2_with fail
        refine hc8.mono ?_
        rintro e w8 ⟨rfl, hb8⟩
        have HB8 := Lib.hid (below_then HB7.out hb8)
        clear hc8 hb8
        have hkk := HK.out w8 (below_then HB2.out HB8.out)
        go_wp2_with fail
        refine hkk.mono ?_
        rintro e wz ⟨rfl, hbz⟩
        go_wp2
        go_ret
        exact ⟨rfl, below_then (below_then HB2.out HB8.out) hbz⟩
      · have hcl := HCG.out w4 HB4.out N hN (by omega)
        have hC6 : C ≤ 262144 := by omega
        have hCo := HCOL.out hC6
        have hLw : (wordsA 0 (colF L (rchW L r) (wordsA 0 L)).1).length = (rchW L r).length := by rw [wordsA_len]; exact hCo.len
        go_wp2_with fail
        refine hcl.mono ?_
        rintro e w5 ⟨tb, O', A5, c5, rfl, hR5⟩
        have HA5 := Lib.hid hR5.ar
        have HR5 := Lib.hid (WReads.of_row (show w5.ownsRow w4.heap.size 27 1 (.slice A5 (r.map (wherM (colF L (rchW L r) (wordsA 0 L)).2)).length c5) (r.map (wherM (colF L (rchW L r) (wordsA 0 L)).2)).length (encW (r.map (wherM (colF L (rchW L r) (wordsA 0 L)).2))) from by rw [List.length_map]; exact hR5.row))
        have HB45 := Lib.hid hR5.base
        have HB5 := Lib.hid (below_then HB4.out hR5.base)
        have HR35 := Lib.hid (HR34.out.below hR5.base)
        have HHM := Lib.hid hCo.hom
        have HU5 := Lib.hid hCo.used
        obtain ⟨L', hL'⟩ : ∃ L', (colF L (rchW L r) (wordsA 0 L)).1 = L' := ⟨_, rfl⟩
        obtain ⟨d, hd'⟩ : ∃ d, (colF L (rchW L r) (wordsA 0 L)).2 = d := ⟨_, rfl⟩
        simp only [hL'] at HA5 HHM HU5 hLw
        simp only [hd'] at HR5 HHM
        have HC := HC0.out
        obtain ⟨R, hR⟩ : ∃ R, rchW L r = R := ⟨_, rfl⟩
        rw [hR] at HHM HU5 hLw HC
        have HR4' := HR4.out
        rw [hR] at HR4'
        have HRR4 := Lib.hid HR4'
        have HCS' := HCS.out
        simp only [hR] at HCS'
        have HCSR := Lib.hid HCS'
        have HRT := Lib.hid (show ∀ x ∈ r, FindOk L x ∧ (ptrW x = true → x ∈ R) from fun x hx => ⟨HXO.out x hx, fun hp => by rw [← hR]; exact HROOT.out x hx hp⟩)
        have HUC := HU5.out
        rw [HC] at HUC
        have HUCC := Lib.hid HUC
        have hbl : (((wordsA 0 L').length : Int) != (R.length : Int)) = false := by rw [bne_eq_false_iff_eq]; omega
        simp only [hR] at hRl ⊢
        clear hCo hR5 hL' hd' hR HC HR4' HCS' HUC HU5 HCOL HCG HCF HCS HR4
        have hal2 := HAL.out w5 HB5.out
        clear hcl
        go_wp2_with fail
        refine hal2.mono ?_
        rintro e w6 ⟨A6, c6, rfl, hrow6, hb6⟩
        have HR6 := Lib.hid (WReads.of_row hrow6)
        have HB6 := Lib.hid (below_then HB5.out hb6)
        have HR36 := Lib.hid ((HR35.out).below hb6)
        have HBS6 := Lib.hid hb6
        have hsw := swords_any w6 WS A6 A3 c6 c3 HR6.out HR36.out (by omega)
        clear hal2 hrow6 hb6
        go_wp2_with fail
        refine hsw.mono ?_
        rintro e w7 ⟨rfl, hb7⟩
        have HB7 := Lib.hid (below_then HB6.out hb7)
        have HBS7 := Lib.hid (below_then HBS6.out hb7)
        have hus := HUS.out w7 HB7.out
        clear hsw hb7
        go_wp2_with fail
        refine hus.mono ?_
        rintro e w7' ⟨rfl, hw7'⟩
        subst hw7'
        clear hus
        have HA7 := Lib.hid (HA5.out.below HBS7.out)
        have HR4 := Lib.hid (HRR4.out.below (below_then HB45.out HBS7.out))
        have hc8 := HCSR.out w7 HB7.out A4 c4 HR4.out
        have hfi : decide ((N : Int) < (C : Int)) = false := decide_eq_false (by omega)
        have hfi2 : ¬ (N : Int) < (C : Int) := by omega
        have hcc : ((C : Int) != (C : Int)) = false := by simp
        have hnc : ((N : Int) - (C : Int) != (N : Int) - (C : Int)) = false := by simp
        have hwnc : IntKind.i64.wrap ((N : Int) - (C : Int)) = (N : Int) - (C : Int) := by rw [IntKind.wrap_i64]; omega
        go_wp2_with fail
        refine hc8.mono ?_
        rintro e w8 ⟨rfl, hb8⟩
        have HB8 := Lib.hid (below_then HB7.out hb8)
        have HA8 := Lib.hid (HA7.out.below hb8)
        have HR48 := Lib.hid (HR4.out.below hb8)
        have HBS8 := Lib.hid (below_then HBS7.out hb8)
        have hu8 := used_same w8 O' tb N L' HA8.out
        rw [HUCC.out] at hu8
        clear hc8 hb8
        go_wp2_with fail
        refine hu8.mono ?_
        rintro e w8' ⟨rfl, hw8'⟩
        subst hw8'
        have hc9 := HCSR.out w8 HB8.out A4 c4 HR48.out
        clear hu8
        go_wp2_with fail
        refine hc9.mono ?_
        rintro e w9 ⟨rfl, hb9⟩
        have HB9 := Lib.hid (below_then HB8.out hb9)
        have HA9 := Lib.hid (HA8.out.below hb9)
        have HBS9 := Lib.hid (below_then HBS8.out hb9)
        have hro := room_any w9 O' tb N L' HA9.out
        rw [HUCC.out] at hro
        clear hc9 hb9
        go_wp2_with fail
        refine hro.mono ?_
        rintro e w10 ⟨rfl, hb10⟩
        have HB10 := Lib.hid (below_then HB9.out hb10)
        have HA10 := Lib.hid (HA9.out.below hb10)
        have HBS10 := Lib.hid (below_then HBS9.out hb10)
        have hu10 := used_same w10 O' tb N L' HA10.out
        rw [HUCC.out] at hu10
        clear hro hb10
        go_wp2_with fail
        refine hu10.mono ?_
        rintro e w10' ⟨rfl, hw10'⟩
        subst hw10'
        have hal3 := sall_any w10 O' tb N L' HA10.out
        clear hu10
        go_wp2_with fail
        refine hal3.mono ?_
        rintro e w11 ⟨A11, c11, rfl, hrow11, hb11⟩
        have HB11 := Lib.hid (below_then HB10.out hb11)
        have HA11 := Lib.hid (HA10.out.below hb11)
        have HBS11 := Lib.hid (below_then HBS10.out hb11)
        have hpa := pairs_any w11 O O' ba tb 20000 N L L' R (wherM d) r A2 A5 c2 c5 (HA2.out.below HB11.out) HA11.out HHM.out HRT.out (HR2.out.below HB11.out) (HR5.out.below HBS11.out) hrle
        have HLW := Lib.hid hLw
        clear hal3 hrow11 hb11 hLw
        go_wp2_with fail
        refine hpa.mono ?_
        rintro e w12 ⟨rfl, hb12⟩
        have HB12 := Lib.hid (below_then HB11.out hb12)
        have HA12 := Lib.hid (HA11.out.below hb12)
        have HBS12 := Lib.hid (below_then HBS11.out hb12)
        clear hpa hb12
        go_wp2_with fail
        go_loopw [17] (fun i wr => ∃ t : Nat, t ≤ r.length ∧ i = .int .i64 (t : Int) ∧ Hid (Below w12.heap.size w12 wr)) (fun i wr => r.length - (intOf i).toNat)
        case atStart => exact ⟨0, Nat.zero_le _, rfl, Lib.hid (Below.refl _ _)⟩
        case round =>
          obtain ⟨t, ht, rfl, hB⟩ := hrel
          have ht0 : (0 : Int) ≤ (t : Int) := Int.natCast_nonneg _
          by_cases hlt : t < r.length
          · have hlb : decide ((t : Int) < (r.length : Int)) = true := decide_eq_true (by omega)
            have hlt1 : (t : Int) < (r.length : Int) := by omega
            have hwt : IntKind.i64.wrap ((t : Int) + 1) = (t : Int) + 1 := by rw [IntKind.wrap_i64]; omega
            have hrt := HRT.out r[t] (List.getElem_mem hlt)
            obtain ⟨T, hTT⟩ := tells_exists HA2.out.wf hrt.1.1
            have hT2 := HHM.out.tells HA2.out.wf hTT (fun y hy => by rw [List.mem_singleton.1 hy]; exact hrt)
            have hfo := (HHM.out.ptr hrt.1 hrt.2).2.1
            obtain ⟨b1, o1, e1, p0⟩ := (HR2.out.below (below_then HB12.out hB.out)) t hlt
            obtain ⟨b2, o2, e2, p1⟩ := row_map (HR5.out.below (below_then HBS12.out hB.out)) hlt
            obtain ⟨x, hx⟩ : ∃ x, r[t] = x := ⟨_, rfl⟩
            rw [hx] at hrt p0 p1 hTT hT2 hfo
            rw [show [x].map (wherM d) = [wherM d x] from rfl] at hT2
            obtain ⟨y, hy⟩ : ∃ y, wherM d x = y := ⟨_, rfl⟩
            rw [hy] at p1 hT2 hfo
            have hg1 := get_tt wr O ba 20000 L x T hrt.1.2.1 hrt.1.2.2 (HA2.out.below (below_then HB12.out hB.out)) hTT
            have hg2 := fun V (hb : Below wr.heap.size wr V) => get_tt V O' tb N L' y T hfo.2.1 hfo.2.2 (HA12.out.below (below_then hB.out hb)) hT2
            have htl := ttOf_len T
            obtain ⟨tt, htt⟩ : ∃ tt, ttOf T = tt := ⟨_, rfl⟩
            obtain ⟨er, her⟩ : ∃ er, erOf T = er := ⟨_, rfl⟩
            rw [htt] at htl
            simp only [htt, her] at hg1 hg2
            have HG2 := Lib.hid hg2
            have hee : (er != er) = false := by simp
            cases e1
            cases e2
            clear hg2 htt her hfo hTT hT2 hrt hx hy
            go_wp2_with fail
            refine hg1.mono ?_
            rintro e wa ⟨⟨Aa, ca, rfl, hrowa⟩, hba⟩
            have HRa := Lib.hid (Reads.of_row hrowa)
            have HBa := Lib.hid hba
            have q1 := cell_below hba p1
            have hg2 := HG2.out wa hba
            clear hg1 hrowa hba p0 p1
            go_wp2_with fail
            refine hg2.mono ?_
            rintro e wb ⟨⟨Ab, cb, rfl, hrowb⟩, hbb⟩
            have HBb := Lib.hid (below_then HBa.out hbb)
            have hsm := rsame_any Aa Ab ca cb tt tt wb (HRa.out.below hbb) (Reads.of_row hrowb) (by omega) (by omega)
            rw [show decide (tt = tt) = true by simp] at hsm
            clear hg2 hrowb hbb q1
            go_wp2_with fail
            refine hsm.mono ?_
            rintro e wc ⟨rfl, hbc⟩
            have HBc := Lib.hid (below_then hB.out (below_then HBb.out hbc))
            clear hsm hbc
            go_wp2
            go_roundw
            case rel => exact ⟨t + 1, by omega, by go_num, HBc⟩
            case measure => simp [intOf]; omega
          · obtain rfl : t = r.length := by omega
            have hlb : decide ((r.length : Int) < (r.length : Int)) = false := decide_eq_false (by omega)
            have HBz := Lib.hid (below_then HB12.out hB.out)
            have hkk := HK.out wr (below_then HB2.out HBz.out)
            go_wp2_with fail
            refine hkk.mono ?_
            rintro e wz ⟨rfl, hbz⟩
            go_wp2
            go_ret
            exact ⟨rfl, below_then (below_then HB2.out HBz.out) hbz⟩
  · have hX0 : rchX L r = [] := by unfold rchX; rw [if_neg hall]
    have hall2 : allFind L r = false := by simpa using hall
    rw [hall2, hX0] at hlrc
    have hcl' := fun V (hb : Below w2.heap.size w2 V) => collect_bad V O ba 20000 L r A2 c2 n (HA2.out.below hb) (HT.out.below (below_then HB2.out hb)) HCELLS.out (HR2.out.below hb) HRNG.out (by omega) hall
    have HCL := Lib.hid hcl'
    clear hcl' hall hall2 hX0
    go_wp2_with fail
    refine hlrc.mono ?_
    rintro e w4 ⟨A4, c4, rfl, hrow4, hb4⟩
    have HB4 := Lib.hid (below_then HB3.out hb4)
    have HR34 := Lib.hid (HR3.out.below hb4)
    have hcl := HCL.out w4 HB4.out
    clear hlrc hrow4 hb4
    go_wp2_with fail
    refine hcl.mono ?_
    rintro e w5 ⟨rfl, hb5⟩
    have HB5 := Lib.hid (below_then HB4.out hb5)
    have HR35 := Lib.hid (HR34.out.below hb5)
    clear hb5
    have hal2 := HAL.out w5 HB5.out
    clear hcl
    go_wp2_with fail
    refine hal2.mono ?_
    rintro e w6 ⟨A6, c6, rfl, hrow6, hb6⟩
    have HR6 := Lib.hid (WReads.of_row hrow6)
    have HB6 := Lib.hid (below_then HB5.out hb6)
    have HR36 := Lib.hid ((HR35.out).below hb6)
    have HBS6 := Lib.hid hb6
    have hsw := swords_any w6 WS A6 A3 c6 c3 HR6.out HR36.out (by omega)
    clear hal2 hrow6 hb6
    go_wp2_with fail
    refine hsw.mono ?_
    rintro e w7 ⟨rfl, hb7⟩
    have HB7 := Lib.hid (below_then HB6.out hb7)
    have HBS7 := Lib.hid (below_then HBS6.out hb7)
    have hus := HUS.out w7 HB7.out
    clear hsw hb7
    go_wp2_with fail
    refine hus.mono ?_
    rintro e w7' ⟨rfl, hw7'⟩
    subst hw7'
    clear hus
    have hkk := HK.out w7 (below_then HB2.out HB7.out)
    go_wp2_with fail
    refine hkk.mono ?_
    rintro e wz ⟨rfl, hbz⟩
    go_wp2
    go_ret
    exact ⟨rfl, below_then (below_then HB2.out HB7.out) hbz⟩
end Go.Proofs.YthgnihckeckaiaaDoor.Tm
