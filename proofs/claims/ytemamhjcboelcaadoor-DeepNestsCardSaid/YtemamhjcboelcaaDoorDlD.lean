/- DeepNests: the walk. -/
import Derived.Test.YtemamhjcboelcaaDoorDlN
import Derived.Test.YtemamhjcboelcaaDoorDpDm
import Derived.Test.YtemamhjcboelcaaDoorDpQ
import Derived.Test.YtemamhjcboelcaaDoorDpS
namespace Go.Proofs.YtemamhjcboelcaaDoor.Tm
open Go.RowKit
set_option linter.unusedVariables false
set_option linter.unusedSimpArgs false

/-- What a tree has beyond what it costs. -/
def sharD (L : List ObjA) (z : Int) (t : List CellD) : Int := (totalA t : Int) - (costsW L (visW L [] z) : Int)
set_option maxRecDepth 10000 in
set_option maxHeartbeats 8000000 in
theorem deepNests_row (A : Option Addr) (cap : Nat) (ops : List Op4) (n x : Int) (w : World) (hT : TabsA w) (hcap : ops.length ≤ cap) (hr : Script4 w A ops) (hk : ∀ op ∈ ops, Op4Ok op) (hl : ops.length ≤ 1000000000000000) (wn : (Lit.int .i64 n).wf = true) (wx : (Lit.int .u64 x).wf = true) :
    Calls Tryd.prog 7 #[.slice A ops.length cap, .int .i64 n, .int .u64 x] w fun e w' => e = .returned (.bool true) ∧ Below w.heap.size w w' := by
  have hmk := made4_any w 4000 ops A cap hT hr hk hl hcap (by omega)
  have HT := Lib.hid hT
  have hxr := wf_word wx
  have hnr := wf_num wn
  clear hT hr hk wx wn
  go_enter Tryd.func7, Tryd.ntmps7
  go_wp2_with fail
  refine hmk.mono ?_
  rintro e w1 ⟨ba, O, L, l, A1, c1, rfl, hM⟩
  have HM := Lib.hid hM
  have hll := hM.len
  have hpk := pick_any w1 l A1 c1 n hM.rd (by omega) hnr
  clear hmk hM
  go_wp2_with fail
  refine hpk.mono ?_
  rintro e w2 ⟨y, rfl, hy, hw⟩
  subst hw
  have hyo := pick_ok HM.out.ok hy
  have hB0 := below_one w2 (.cells #[.int .u64 y, .int .u64 x] 27)
  obtain ⟨zs, hzs⟩ : ∃ zs, [y, x] = zs := ⟨_, rfl⟩
  have hz2 : zs.length = 2 := by rw [← hzs]; rfl
  have hWZ : WReads (w2.alloc (.cells #[.int .u64 y, .int .u64 x] 27)) (some ⟨w2.heap.size, 0, none⟩) zs := by
    rw [← hzs]
    exact two_words2 (heap_new w2 _)
  have hzr : ∀ z ∈ zs, 0 ≤ z ∧ z < 18446744073709551616 := by
    intro z hz
    rw [← hzs] at hz
    simp at hz
    rcases hz with rfl | rfl
    · exact hyo.2
    · exact hxr
  have HWZ := Lib.hid hWZ
  have HZR := Lib.hid hzr
  have HZ2 := Lib.hid hz2
  have HB0 := Lib.hid hB0
  clear hpk hy hyo hWZ hzr hzs hz2 hB0
  go_wp2_with fail
  go_loopw [28] (fun i wr => ∃ j : Nat, j ≤ 2 ∧ i = .int .i64 (j : Int) ∧ Hid (Below (w2.alloc (.cells #[.int .u64 y, .int .u64 x] 27)).heap.size (w2.alloc (.cells #[.int .u64 y, .int .u64 x] 27)) wr)) (fun i wr => 2 - (intOf i).toNat)
  case atStart => exact ⟨0, by omega, rfl, Lib.hid (Below.refl _ _)⟩
  case round =>
    obtain ⟨j, hj, rfl, hB⟩ := hrel
    have HBM := Lib.hid (below_then HB0.out hB.out)
    have HBW := Lib.hid (below_then HM.out.base HBM.out)
    by_cases hlt : j < 2
    · have hjz : j < zs.length := by rw [HZ2.out]; exact hlt
      obtain ⟨g, o, hAe, q0⟩ := HWZ.out.below hB.out j hjz
      cases hAe
      rw [Nat.zero_add] at q0
      have hzr := HZR.out zs[j] (List.getElem_mem hjz)
      obtain ⟨z, hz⟩ : ∃ z, zs[j] = z := ⟨_, rfl⟩
      rw [hz] at q0 hzr
      have hAr := HM.out.ar.below HBM.out
      have hTr := HT.out.below HBW.out
      have hlims := hAr.lims
      have hll := hAr.wf.len
      obtain ⟨t, er, ha⟩ := get_ans hAr.wf z
      obtain ⟨f1, f2, f3, f4, f5⟩ := ha.facts
      have hsh := fun W (hb : Below wr.heap.size wr W) => shared_any W O ba 4000 L z t er hzr.1 hzr.2 (hAr.below hb) (hTr.below hb) HM.out.cells ha
      have hgt := fun W (hb : Below wr.heap.size wr W) => getv_any W O ba 4000 L z t er hzr.1 hzr.2 (hAr.below hb) ha
      have HCE := Lib.hid (ha.cells hAr.wf HM.out.cells)
      have hiso := isSome_of ha
      have HAr := Lib.hid hAr
      have HTr := Lib.hid hTr
      have HSH := Lib.hid hsh
      have HGT := Lib.hid hgt
      have HF5 := Lib.hid f5
      have hj1 : (j : Int) < 2 := by omega
      have hj0 : (0 : Int) ≤ (j : Int) := Int.natCast_nonneg _
      have hbl : decide ((j : Int) < 2) = true := decide_eq_true hj1
      have e1 : (er != er) = false := by simp
      clear hz hAr ha f2 f4 f5 hTr hsh hgt
      have hB' := hB
      clear hB
      by_cases h31 : er = 31
      · subst h31
        have hdp := depth_none wr O ba 4000 L z HAr.out hzr.1 hzr.2 (by rw [hiso]; rfl)
        clear f1 f3 e1 hiso
        go_wp2_with fail
        refine hdp.mono ?_
        rintro e w3 ⟨rfl, hb3⟩
        have hs3 := HSH.out w3 hb3
        rw [if_neg (by decide)] at hs3
        clear hdp q0
        go_wp2_with fail
        refine hs3.mono ?_
        rintro e w4 ⟨rfl, hb4⟩
        have hb5 := below_then hb3 hb4
        have hg5 := HGT.out w4 hb5
        clear hs3
        go_wp2_with fail
        refine hg5.mono ?_
        rintro e w5 ⟨⟨A3, c3, rfl, hrow⟩, hb6⟩
        have HB5 := Lib.hid (show Below (w2.alloc (.cells #[.int .u64 y, .int .u64 x] 27)).heap.size (w2.alloc (.cells #[.int .u64 y, .int .u64 x] 27)) w5 from below_then hB'.out (below_then hb5 hb6))
        clear hb3 hb4 hb5 hb6 hrow hg5
        go_wp2
        go_roundw
        case rel => exact ⟨j + 1, by omega, by go_num, HB5⟩
        case measure => simp [intOf]; omega
      · have hfs : (findA L z).isSome = true := by rw [hiso]; exact decide_eq_true h31
        have hfo : FindOk L z := ⟨hfs, hzr.1, hzr.2⟩
        have hdp := depth_any wr O ba 4000 L z HAr.out hzr.1 hzr.2 hfs
        have hld := fun W (hb : Below wr.heap.size wr W) => ldepth_any W O ba 4000 L z (HAr.out.below hb) hfo
        have e31 : (er == 31) = false := beq_eq_false_iff_ne.2 h31
        obtain ⟨D, hD⟩ : ∃ D, depthOf L z = D := ⟨_, rfl⟩
        rw [hD] at hdp
        simp only [hD] at hld
        have edd : ((D : Int) != (D : Int)) = false := by simp
        have HLD := Lib.hid hld
        clear hiso hfs hld hD
        go_wp2_with fail
        refine hdp.mono ?_
        rintro e w3 ⟨rfl, hb3⟩
        have hs3 := HSH.out w3 hb3
        clear hdp q0
        obtain ⟨S, hS⟩ : ∃ S, (if er = 0 then (totalA t : Int) - (costsW L (visW L [] z) : Int) else 0) = S := ⟨_, rfl⟩
        rw [hS] at hs3
        have HSS := Lib.hid hS
        clear hS
        go_wp2_with fail
        refine hs3.mono ?_
        rintro e w4 ⟨rfl, hb4⟩
        have hb5 := below_then hb3 hb4
        have hg5 := HGT.out w4 hb5
        clear hs3
        go_wp2_with fail
        refine hg5.mono ?_
        rintro e w5 ⟨⟨A3, c3, rfl, hrow⟩, hb6⟩
        have HR := Lib.hid (Reads.of_row hrow)
        have hb7 := below_then hb5 hb6
        have hl5 := HLD.out w5 hb7
        clear hrow hg5
        go_wp2_with fail
        refine hl5.mono ?_
        rintro e w6 ⟨rfl, hb8⟩
        have HR6 := Lib.hid (HR.out.below hb8)
        have HB8 := Lib.hid (below_then hb7 hb8)
        clear hl5 hb3 hb4 hb5 hb6 hb7 hb8
        by_cases he : er = 0
        · subst he
          have hrc := rcells_any w6 t A3 c3 HR6.out HCE.out HF5.out
          have htl := tot_le (fun c hc => (HCE.out c hc).1)
          have hwf := HAr.out.wf
          have hm0 : MetOk L [] := ⟨List.nodup_nil, fun x hx => (by cases hx)⟩
          have hmo := vis_ok hwf (m := []) hm0 hfo
          have hcb := costsW_le hwf HM.out.cells (visW L [] z)
          have hml := hmo.len
          have HOB := Lib.hid (fun W (hb : Below w6.heap.size w6 W) => objects_any hwf O ba 4000 W.heap.size (by omega) (rkW L z + 1) z [] (.slice none 0 0) W (Nat.lt_succ_self _) hfo hm0 (HAr.out.below (below_then HB8.out hb)) (fun k hk => by cases hk) (row_nil _ _ _ _) (Nat.le_refl _))
          have HCS := Lib.hid (fun W A cap (hb : Below w6.heap.size w6 W) hr => costs_any W O ba 4000 L (visW L [] z) A cap (HAr.out.below (below_then HB8.out hb)) (HTr.out.below (below_then HB8.out hb)) HM.out.cells hr (fun x hx => (hmo.ok x hx).1) (by omega))
          rw [if_pos rfl] at HSS
          have HF6 := Lib.hid HF5.out
          obtain ⟨ws, hws⟩ : ∃ ws, visW L [] z = ws := ⟨_, rfl⟩
          simp only [hws] at HOB HCS hcb hml HSS
          obtain ⟨K, hK⟩ : ∃ K, costsW L ws = K := ⟨_, rfl⟩
          simp only [hK] at HCS hcb HSS
          obtain ⟨T, hTT⟩ : ∃ T, totalA t = T := ⟨_, rfl⟩
          rw [hTT] at hrc htl HSS
          have hf5 := HF5.out
          have hwr2 : IntKind.i64.wrap ((T : Int) - (K : Int)) = S := by rw [IntKind.wrap_i64, ← HSS.out]; omega
          have hss : (S != S) = false := by simp
          clear hwf hm0 hmo hws hK hTT f1 f3 hfo h31
          go_wp2_with fail
          refine hrc.mono ?_
          rintro e w7 ⟨rfl, hc1⟩
          have ho7 := HOB.out w7 hc1
          clear hrc
          go_wp2_with fail
          refine ho7.mono ?_
          rintro e w8 ⟨v, rfl, hO8⟩
          obtain ⟨A8, c8, rfl⟩ := row_slice hO8.row
          have hc2 : Below w7.heap.size w7 w8 := hO8.fr.below (Nat.le_refl _) (fun k hk => by cases hk)
          have hk8 := HCS.out w8 A8 c8 (below_then hc1 hc2) (WReads.of_row hO8.row)
          clear ho7 hO8
          go_wp2_with fail
          refine hk8.mono ?_
          rintro e w9 ⟨rfl, hc3⟩
          have HB5 := Lib.hid (below_then hB'.out (below_then HB8.out (below_then hc1 (below_then hc2 hc3))))
          clear hk8 hc1 hc2 hc3
          go_wp2
          go_roundw
          case rel => exact ⟨j + 1, by omega, by go_num, HB5⟩
          case measure => simp [intOf]; omega
        · have e2 : (er == 0) = false := beq_eq_false_iff_ne.2 he
          have e3 : (er != 0) = true := by rw [bne_iff_ne]; exact he
          have HB5 := Lib.hid (below_then hB'.out HB8.out)
          rw [if_neg he] at HSS
          have hS0 : S = 0 := HSS.out.symm
          subst hS0
          clear f1 f3 h31 he hfo
          go_wp2
          go_roundw
          case rel => exact ⟨j + 1, by omega, by go_num, HB5⟩
          case measure => simp [intOf]; omega
    · have hbl : decide ((j : Int) < 2) = false := decide_eq_false (by omega)
      have hak := awake_any wr (HT.out.below HBW.out)
      clear hlt hj
      go_wp2_with fail
      refine hak.mono ?_
      rintro e w5 ⟨rfl, hb5⟩
      go_wp2
      go_ret
      exact ⟨rfl, below_then HBW.out hb5⟩
end Go.Proofs.YtemamhjcboelcaaDoor.Tm
