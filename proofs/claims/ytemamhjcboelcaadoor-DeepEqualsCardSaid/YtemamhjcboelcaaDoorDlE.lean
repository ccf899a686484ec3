/- DeepEquals: the walk. -/
import Derived.Test.YtemamhjcboelcaaDoorDlN
import Derived.Test.YtemamhjcboelcaaDoorDpF
namespace Go.Proofs.YtemamhjcboelcaaDoor.Tm
open Go.RowKit
set_option linter.unusedVariables false
set_option linter.unusedSimpArgs false

set_option maxRecDepth 10000 in
set_option maxHeartbeats 8000000 in
theorem deepEquals_row (A : Option Addr) (cap : Nat) (ops : List Op4) (A2 : Option Addr) (cap2 : Nat) (ops2 : List Op4) (n n2 : Int) (AR : Option Addr) (capR : Nat) (raw : List Int) (w : World) (hT : TabsA w) (hcap : ops.length ≤ cap) (hr : Script4 w A ops) (hk : ∀ op ∈ ops, Op4Ok op) (hl : ops.length ≤ 1000000000000000) (hcap2 : ops2.length ≤ cap2) (hr2 : Script4 w A2 ops2) (hk2 : ∀ op ∈ ops2, Op4Ok op) (hl2 : ops2.length ≤ 1000000000000000) (wn : (Lit.int .i64 n).wf = true) (wn2 : (Lit.int .i64 n2).wf = true) (hcR : raw.length ≤ capR) (hrR : WReads w AR raw) (hxR : ∀ x ∈ raw, 0 ≤ x ∧ x < 18446744073709551616) (hlR : raw.length * 8 ≤ 140737488351232) :
    Calls Tryd.prog 10 #[.slice A ops.length cap, .slice A2 ops2.length cap2, .int .i64 n, .int .i64 n2, .slice AR raw.length capR] w fun e w' => e = .returned (.bool true) ∧ Below w.heap.size w w' := by
  have hmk := made4_any w 4000 ops A cap hT hr hk hl hcap (by omega)
  have HT := Lib.hid hT
  have HR2 := Lib.hid hr2
  have HK2 := Lib.hid hk2
  have HRR := Lib.hid hrR
  have HXR := Lib.hid hxR
  have hnr := wf_num wn
  have hnr2 := wf_num wn2
  clear hT hr hk wn wn2 hr2 hk2 hrR hxR
  go_enter Tryd.func10, Tryd.ntmps10
  go_wp2_with fail
  refine hmk.mono ?_
  rintro e w1 ⟨ba, O, L, l, A1, c1, rfl, hM⟩
  have HM := Lib.hid hM
  have hll := hM.len
  have hmk2 := made4_any w1 4000 ops2 A2 cap2 (HT.out.below hM.base) (HR2.out.below hM.base) HK2.out hl2 hcap2 (by omega)
  clear hmk hM
  go_wp2_with fail
  refine hmk2.mono ?_
  rintro e w2 ⟨bb, O2, L2, l2, A12, c12, rfl, hM2⟩
  have HM2 := Lib.hid hM2
  have hll2 := hM2.len
  have HBW := Lib.hid (below_then HM.out.base hM2.base)
  have HD := Lib.hid (show Duo w2 O O2 ba 4000 L bb 4000 L2 from ⟨HM.out.ar.below hM2.base, hM2.ar, fun k hk h => by have := (HM.out.ar.lim k hk).2; have := hM2.o1 k h; omega⟩)
  have hpk := pick_any w2 l A1 c1 n (HM.out.rd.below hM2.base) (by omega) hnr
  have hpk2 := pick_any w2 l2 A12 c12 n2 hM2.rd (by omega) hnr2
  have HPK2 := Lib.hid hpk2
  clear hmk2 hM2 hpk2
  go_wp2_with fail
  refine hpk.mono ?_
  rintro e w3 ⟨y, rfl, hy, hw⟩
  subst hw
  have hyo := (pick_ok HM.out.ok hy).2
  have hpk3 := HPK2.out
  clear hpk hy
  go_wp2_with fail
  refine hpk3.mono ?_
  rintro e w4 ⟨z, rfl, hz, hw⟩
  subst hw
  have hzo := (pick_ok HM2.out.ok hz).2
  clear hpk3 hz HPK2
  go_upto_if 45 with (fail)
  go_cut [15, 16] (fun s15 s16 wx => ∃ x v, s15 = .int .u64 x ∧ s16 = .int .u64 v ∧ (0 ≤ x ∧ x < 18446744073709551616) ∧ (0 ≤ v ∧ v < 18446744073709551616) ∧ Below w4.heap.size w4 wx)
  case first =>
    by_cases hr1 : 1 < raw.length
    · have hb : decide ((1 : Int) < (raw.length : Int)) = true := decide_eq_true (by omega)
      have hRw := HRR.out.below HBW.out
      obtain ⟨g, o, rfl, n0⟩ := hRw 0 (by omega)
      obtain ⟨g', o', e', n1⟩ := hRw 1 (by omega)
      cases e'
      have x0 := HXR.out raw[0] (List.getElem_mem (by omega))
      have x1 := HXR.out raw[1] (List.getElem_mem (by omega))
      obtain ⟨r0, hr0⟩ : ∃ r, raw[0] = r := ⟨_, rfl⟩
      obtain ⟨r1, hr1'⟩ : ∃ r, raw[1] = r := ⟨_, rfl⟩
      rw [hr0] at n0 x0
      rw [hr1'] at n1 x1
      rw [Nat.add_zero] at n0
      have i0 : (0 : Int) < (raw.length : Int) := by omega
      have i1 : (1 : Int) < (raw.length : Int) := by omega
      have i2 : 0 < raw.length := by omega
      clear hRw hr0 hr1'
      go_wp2_with fail
      go_quiet (fail)
      go_wp2
      go_meet
      exact ⟨r0, r1, rfl, rfl, x0, x1, by first | exact Below.refl _ _ | exact (Below.refl _ _).drew | exact below_drewA (Below.refl _ _) _⟩
    · have hb : decide ((1 : Int) < (raw.length : Int)) = false := decide_eq_false (by omega)
      have hr2 : raw.length ≤ 1 := by omega
      go_wp2
      go_meet
      exact ⟨y, z, rfl, rfl, hyo, hzo, Below.refl _ _⟩
  case rest =>
    obtain ⟨x, v, rfl, rfl, hx, hv, hB5⟩ := hcut
    clear hyo hzo
    have HD5 := Lib.hid (HD.out.below hB5)
    have HB5 := Lib.hid (below_then HBW.out hB5)
    obtain ⟨t, er, ha⟩ := get_ans HD.out.a1.wf x
    obtain ⟨u, fr, hb⟩ := get_ans HD.out.a2.wf v
    obtain ⟨f1, f2, f3, f4, f5⟩ := ha.facts
    obtain ⟨q1, q2, q3, q4, q5⟩ := hb.facts
    have hg1 := getv_any wc O ba 4000 L x t er hx.1 hx.2 HD5.out.a1 ha
    have hg2 := fun W (hB : Below wc.heap.size wc W) => getv_any W O2 bb 4000 L2 v u fr hv.1 hv.2 (HD5.out.a2.below hB) hb
    have he1 := fun W (hB : Below wc.heap.size wc W) => equal_any W O O2 ba 4000 bb 4000 L L2 x v t u er fr hx hv (HD5.out.a1.below hB) (HD5.out.a2.below hB) ha hb
    have he2 := fun W (hB : Below wc.heap.size wc W) => equal_any W O2 O bb 4000 ba 4000 L2 L v x u t fr er hv hx (HD5.out.a2.below hB) (HD5.out.a1.below hB) hb ha
    have he3 := fun W (hB : Below wc.heap.size wc W) => equal_any W O O ba 4000 ba 4000 L L x x t t er er hx hx (HD5.out.a1.below hB) (HD5.out.a1.below hB) ha ha
    clear f2 f3 f4 q2 q3 q4 hB5 ha hb
    go_wp2_with fail
    refine hg1.mono ?_
    rintro e w6 ⟨⟨A6, c6, rfl, r6⟩, hb6⟩
    have HR6 := Lib.hid (Reads.of_row r6)
    have hg7 := hg2 w6 hb6
    have HB6 := Lib.hid hb6
    clear hg1 r6 hg2 hb6
    go_wp2_with fail
    refine hg7.mono ?_
    rintro e w7 ⟨⟨A7, c7, rfl, r7⟩, hb7⟩
    have HR7 := Lib.hid (Reads.of_row r7)
    have HR67 := Lib.hid (HR6.out.below hb7)
    have HB7 := Lib.hid (below_then HB6.out hb7)
    clear hg7 r7 hb7 HB6 HR6
    have hcs : (er = 31) ∨ (er ≠ 31 ∧ fr = 31) ∨ (er = 7 ∧ fr ≠ 31) ∨ (er = 0 ∧ fr = 7) ∨ (er = 0 ∧ fr = 0) := by omega
    have he17 := he1 w7 HB7.out
    have HE2 := Lib.hid he2
    have HE3 := Lib.hid he3
    clear he1 he2 he3
    rcases hcs with c | ⟨c', c⟩ | ⟨c, c'⟩ | ⟨c, c'⟩ | ⟨c, c'⟩
    · have e1 : (er == 31) = true := by rw [c]; rfl
      have HV := Lib.hid (⟨by unfold equalB; rw [if_neg (by omega)], by unfold equalE; rw [if_pos (.inl c)], by unfold equalB; rw [if_neg (by omega)], by unfold equalE; rw [if_pos (.inr c)]⟩ : equalB t u er fr = false ∧ equalE er fr = 31 ∧ equalB u t fr er = false ∧ equalE fr er = 31)
      rw [HV.out.1, HV.out.2.1] at he17
      go_wp2_with fail
      refine he17.mono ?_
      rintro e w8 ⟨rfl, hb8⟩
      have HB8 := Lib.hid (below_then HB7.out hb8)
      have he28 := HE2.out w8 HB8.out
      rw [HV.out.2.2.1, HV.out.2.2.2] at he28
      clear he17
      go_wp2_with fail
      refine he28.mono ?_
      rintro e w9 ⟨rfl, hb9⟩
      have HB9 := Lib.hid (below_then HB8.out hb9)
      have he39 := HE3.out w9 HB9.out
      obtain ⟨b3, hb3⟩ : ∃ b, equalB t t er er = b := ⟨_, rfl⟩
      obtain ⟨e3, he3⟩ : ∃ b, equalE er er = b := ⟨_, rfl⟩
      rw [hb3, he3] at he39
      clear he28 hb3 he3
      go_wp2_with fail
      refine he39.mono ?_
      rintro e w10 ⟨rfl, hb10⟩
      have HB10 := Lib.hid (below_then HB5.out (below_then HB9.out hb10))
      have hak := awake_any w10 (HT.out.below HB10.out)
      clear he39 hb8 hb9 hb10
      go_wp2_with fail
      refine hak.mono ?_
      rintro e w12 ⟨rfl, hb12⟩
      go_wp2
      go_ret
      exact ⟨rfl, below_then HB10.out hb12⟩
    · have e1 : (er == 31) = false := beq_eq_false_iff_ne.2 c'
      have e2 : (fr == 31) = true := by rw [c]; rfl
      have HV := Lib.hid (⟨by unfold equalB; rw [if_neg (by omega)], by unfold equalE; rw [if_pos (.inr c)], by unfold equalB; rw [if_neg (by omega)], by unfold equalE; rw [if_pos (.inl c)]⟩ : equalB t u er fr = false ∧ equalE er fr = 31 ∧ equalB u t fr er = false ∧ equalE fr er = 31)
      rw [HV.out.1, HV.out.2.1] at he17
      go_wp2_with fail
      refine he17.mono ?_
      rintro e w8 ⟨rfl, hb8⟩
      have HB8 := Lib.hid (below_then HB7.out hb8)
      have he28 := HE2.out w8 HB8.out
      rw [HV.out.2.2.1, HV.out.2.2.2] at he28
      clear he17
      go_wp2_with fail
      refine he28.mono ?_
      rintro e w9 ⟨rfl, hb9⟩
      have HB9 := Lib.hid (below_then HB8.out hb9)
      have he39 := HE3.out w9 HB9.out
      obtain ⟨b3, hb3⟩ : ∃ b, equalB t t er er = b := ⟨_, rfl⟩
      obtain ⟨e3, he3⟩ : ∃ b, equalE er er = b := ⟨_, rfl⟩
      rw [hb3, he3] at he39
      clear he28 hb3 he3
      go_wp2_with fail
      refine he39.mono ?_
      rintro e w10 ⟨rfl, hb10⟩
      have HB10 := Lib.hid (below_then HB5.out (below_then HB9.out hb10))
      have hak := awake_any w10 (HT.out.below HB10.out)
      clear he39 hb8 hb9 hb10
      go_wp2_with fail
      refine hak.mono ?_
      rintro e w12 ⟨rfl, hb12⟩
      go_wp2
      go_ret
      exact ⟨rfl, below_then HB10.out hb12⟩
    · have e1 : (er == 31) = false := by rw [c]; rfl
      have e2 : (fr == 31) = false := beq_eq_false_iff_ne.2 c'
      have e3 : (er != 0) = true := by rw [c]; rfl
      have HV := Lib.hid (⟨by unfold equalB; rw [if_neg (by omega)], by unfold equalE; rw [if_neg (by omega), if_pos (by omega)], by unfold equalB; rw [if_neg (by omega)], by unfold equalE; rw [if_neg (by omega), if_pos (by omega)]⟩ : equalB t u er fr = false ∧ equalE er fr = 7 ∧ equalB u t fr er = false ∧ equalE fr er = 7)
      rw [HV.out.1, HV.out.2.1] at he17
      go_wp2_with fail
      refine he17.mono ?_
      rintro e w8 ⟨rfl, hb8⟩
      have HB8 := Lib.hid (below_then HB7.out hb8)
      have he28 := HE2.out w8 HB8.out
      rw [HV.out.2.2.1, HV.out.2.2.2] at he28
      clear he17
      go_wp2_with fail
      refine he28.mono ?_
      rintro e w9 ⟨rfl, hb9⟩
      have HB9 := Lib.hid (below_then HB8.out hb9)
      have he39 := HE3.out w9 HB9.out
      obtain ⟨b3, hb3⟩ : ∃ b, equalB t t er er = b := ⟨_, rfl⟩
      obtain ⟨e3, he3⟩ : ∃ b, equalE er er = b := ⟨_, rfl⟩
      rw [hb3, he3] at he39
      clear he28 hb3 he3
      go_wp2_with fail
      refine he39.mono ?_
      rintro e w10 ⟨rfl, hb10⟩
      have HB10 := Lib.hid (below_then HB5.out (below_then HB9.out hb10))
      have hak := awake_any w10 (HT.out.below HB10.out)
      clear he39 hb8 hb9 hb10
      go_wp2_with fail
      refine hak.mono ?_
      rintro e w12 ⟨rfl, hb12⟩
      go_wp2
      go_ret
      exact ⟨rfl, below_then HB10.out hb12⟩
    · have e1 : (er == 31) = false := by rw [c]; rfl
      have e2 : (fr == 31) = false := by rw [c']; rfl
      have e3 : (er != 0) = false := by rw [c]; rfl
      have e4 : (fr != 0) = true := by rw [c']; rfl
      have HV := Lib.hid (⟨by unfold equalB; rw [if_neg (by omega)], by unfold equalE; rw [if_neg (by omega), if_pos (by omega)], by unfold equalB; rw [if_neg (by omega)], by unfold equalE; rw [if_neg (by omega), if_pos (by omega)]⟩ : equalB t u er fr = false ∧ equalE er fr = 7 ∧ equalB u t fr er = false ∧ equalE fr er = 7)
      rw [HV.out.1, HV.out.2.1] at he17
      go_wp2_with fail
      refine he17.mono ?_
      rintro e w8 ⟨rfl, hb8⟩
      have HB8 := Lib.hid (below_then HB7.out hb8)
      have he28 := HE2.out w8 HB8.out
      rw [HV.out.2.2.1, HV.out.2.2.2] at he28
      clear he17
      go_wp2_with fail
      refine he28.mono ?_
      rintro e w9 ⟨rfl, hb9⟩
      have HB9 := Lib.hid (below_then HB8.out hb9)
      have he39 := HE3.out w9 HB9.out
      obtain ⟨b3, hb3⟩ : ∃ b, equalB t t er er = b := ⟨_, rfl⟩
      obtain ⟨e3, he3⟩ : ∃ b, equalE er er = b := ⟨_, rfl⟩
      rw [hb3, he3] at he39
      clear he28 hb3 he3
      go_wp2_with fail
      refine he39.mono ?_
      rintro e w10 ⟨rfl, hb10⟩
      have HB10 := Lib.hid (below_then HB5.out (below_then HB9.out hb10))
      have hak := awake_any w10 (HT.out.below HB10.out)
      clear he39 hb8 hb9 hb10
      go_wp2_with fail
      refine hak.mono ?_
      rintro e w12 ⟨rfl, hb12⟩
      go_wp2
      go_ret
      exact ⟨rfl, below_then HB10.out hb12⟩
    · have hz1 : equalE er fr = 0 := by unfold equalE; rw [if_neg (by omega), if_neg (by omega)]
      have HV := Lib.hid (⟨by unfold equalB; rw [if_pos ⟨c, c'⟩], by exact hz1, by unfold equalB; rw [if_pos ⟨c', c⟩]; exact decide_eq_decide.2 ⟨fun h => h.symm, fun h => h.symm⟩, by unfold equalE; rw [if_neg (by omega), if_neg (by omega)]⟩ : equalB t u er fr = decide (t = u) ∧ equalE er fr = 0 ∧ equalB u t fr er = decide (t = u) ∧ equalE fr er = 0)
      rw [HV.out.1, HV.out.2.1] at he17
      go_wp2_with fail
      refine he17.mono ?_
      rintro e w8 ⟨rfl, hb8⟩
      have HB8 := Lib.hid (below_then HB7.out hb8)
      have he28 := HE2.out w8 HB8.out
      rw [HV.out.2.2.1, HV.out.2.2.2] at he28
      clear he17
      go_wp2_with fail
      refine he28.mono ?_
      rintro e w9 ⟨rfl, hb9⟩
      have HB9 := Lib.hid (below_then HB8.out hb9)
      have he39 := HE3.out w9 HB9.out
      obtain ⟨b3, hb3⟩ : ∃ b, equalB t t er er = b := ⟨_, rfl⟩
      obtain ⟨e3, he3⟩ : ∃ b, equalE er er = b := ⟨_, rfl⟩
      rw [hb3, he3] at he39
      have hb3' : b3 = true := by rw [← hb3]; unfold equalB; rw [if_pos ⟨c, c⟩]; simp
      have he3' : e3 = 0 := by rw [← he3]; unfold equalE; rw [if_neg (by omega), if_neg (by omega)]
      subst hb3'
      subst he3'
      subst c
      subst c'
      clear he28 hb3 he3
      go_wp2_with fail
      refine he39.mono ?_
      rintro e w10 ⟨rfl, hb10⟩
      have HB10 := Lib.hid (below_then HB5.out (below_then HB9.out hb10))
      have hsm := rsame_any A6 A7 c6 c7 t u w10 (((HR67.out.below hb8).below hb9).below hb10) (((HR7.out.below hb8).below hb9).below hb10) (by omega) (by omega)
      clear he39 hb8 hb9 hb10
      go_wp2_with fail
      refine hsm.mono ?_
      rintro e w11 ⟨rfl, hb11⟩
      have HB11 := Lib.hid (below_then HB10.out hb11)
      have hak := awake_any w11 (HT.out.below HB11.out)
      have hdd : (decide (t = u) == decide (t = u)) = true := by simp
      clear hsm hb11
      go_wp2_with fail
      refine hak.mono ?_
      rintro e w12 ⟨rfl, hb12⟩
      go_wp2
      go_ret
      exact ⟨rfl, below_then HB11.out hb12⟩
end Go.Proofs.YtemamhjcboelcaaDoor.Tm
