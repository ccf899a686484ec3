/- DeepCells: the walk. -/
import Derived.Test.YtemamhjcboelcaaDoorDlN
import Derived.Test.YtemamhjcboelcaaDoorDpQ
namespace Go.Proofs.YtemamhjcboelcaaDoor.Tm
open Go.RowKit
set_option linter.unusedVariables false
set_option linter.unusedSimpArgs false

set_option maxRecDepth 10000 in
set_option maxHeartbeats 4000000 in
theorem deepCells_row (A : Option Addr) (cap : Nat) (ops : List Op4) (n x : Int) (w : World) (hT : TabsA w) (hcap : ops.length ≤ cap) (hr : Script4 w A ops) (hk : ∀ op ∈ ops, Op4Ok op) (hl : ops.length ≤ 1000000000000000) (wn : (Lit.int .i64 n).wf = true) (wx : (Lit.int .u64 x).wf = true) :
    Calls Tryd.prog 4 #[.slice A ops.length cap, .int .i64 n, .int .u64 x] w fun e w' => e = .returned (.bool true) ∧ Below w.heap.size w w' := by
  have hmk := made4_any w 4000 ops A cap hT hr hk hl hcap (by omega)
  have HT := Lib.hid hT
  have hxr := wf_word wx
  have hnr := wf_num wn
  clear hT hr hk wx wn
  go_enter Tryd.func4, Tryd.ntmps4
  go_wp2_with fail
  refine hmk.mono ?_
  rintro e w1 ⟨ba, O, L, l, A1, c1, rfl, hM⟩
  have HM := Lib.hid hM
  have hll := hM.len
  have hpk := pick_any w1 l A1 c1 n hM.rd (by omega) hnr
  clear hmk hM
  go_wp2_with fail
  refine hpk.mono ?_
  rintro e w2 ⟨y, rfl, hy, hw⟩
  subst hw
  have hyo := pick_ok HM.out.ok hy
  have hB0 := below_one w2 (.cells #[.int .u64 y, .int .u64 x] 27)
  obtain ⟨zs, hzs⟩ : ∃ zs, [y, x] = zs := ⟨_, rfl⟩
  have hz2 : zs.length = 2 := by rw [← hzs]; rfl
  have hWZ : WReads (w2.alloc (.cells #[.int .u64 y, .int .u64 x] 27)) (some ⟨w2.heap.size, 0, none⟩) zs := by
    rw [← hzs]
    exact two_words2 (heap_new w2 _)
  have hzr : ∀ z ∈ zs, 0 ≤ z ∧ z < 18446744073709551616 := by
    intro z hz
    rw [← hzs] at hz
    simp at hz
    rcases hz with rfl | rfl
    · exact hyo.2
    · exact hxr
  have HWZ := Lib.hid hWZ
  have HZR := Lib.hid hzr
  have HZ2 := Lib.hid hz2
  have HB0 := Lib.hid hB0
  clear hpk hy hyo hWZ hzr hzs hz2 hB0
  go_wp2_with fail
  go_loopw [26] (fun i wr => ∃ j : Nat, j ≤ 2 ∧ i = .int .i64 (j : Int) ∧ Hid (Below (w2.alloc (.cells #[.int .u64 y, .int .u64 x] 27)).heap.size (w2.alloc (.cells #[.int .u64 y, .int .u64 x] 27)) wr)) (fun i wr => 2 - (intOf i).toNat)
  case atStart => exact ⟨0, by omega, rfl, Lib.hid (Below.refl _ _)⟩
  case round =>
    obtain ⟨j, hj, rfl, hB⟩ := hrel
    have HBM := Lib.hid (below_then HB0.out hB.out)
    have HBW := Lib.hid (below_then HM.out.base HBM.out)
    by_cases hlt : j < 2
    · have hjz : j < zs.length := by rw [HZ2.out]; exact hlt
      obtain ⟨g, o, hAe, q0⟩ := HWZ.out.below hB.out j hjz
      cases hAe
      rw [Nat.zero_add] at q0
      have hzr := HZR.out zs[j] (List.getElem_mem hjz)
      obtain ⟨z, hz⟩ : ∃ z, zs[j] = z := ⟨_, rfl⟩
      rw [hz] at q0 hzr
      have hAr := HM.out.ar.below HBM.out
      obtain ⟨t, er, ha⟩ := get_ans hAr.wf z
      obtain ⟨f1, f2, f3, f4, f5⟩ := ha.facts
      have hgt := getv_any wr O ba 4000 L z t er hzr.1 hzr.2 hAr ha
      have hdc := fun W (hb : Below wr.heap.size wr W) => dcells_any W O ba 4000 L z t er hzr.1 hzr.2 (hAr.below hb) HM.out.cells ha
      have HCE := Lib.hid (ha.cells hAr.wf HM.out.cells)
      have hj1 : (j : Int) < 2 := by omega
      have hj0 : (0 : Int) ≤ (j : Int) := Int.natCast_nonneg _
      have hbl : decide ((j : Int) < 2) = true := decide_eq_true hj1
      clear hz hAr ha f1 f2 f4
      go_wp2_with fail
      refine hgt.mono ?_
      rintro e w3 ⟨⟨A3, c3, rfl, hrow⟩, hb3⟩
      have HR := Lib.hid (Reads.of_row hrow)
      have hd3 := hdc w3 hb3
      clear hgt hrow hdc q0
      go_wp2_with fail
      refine hd3.mono ?_
      rintro e w4 ⟨rfl, hb4⟩
      have hB4 := below_then hB.out (below_then hb3 hb4)
      have e1 : (er != er) = false := by simp
      by_cases he : er = 0
      · subst he
        have hrc := rcells_any w4 t A3 c3 (HR.out.below hb4) HCE.out f5
        have e2 : ((totalA t : Int) != (totalA t : Int)) = false := by simp
        clear f3 hd3
        go_wp2_with fail
        refine hrc.mono ?_
        rintro e w5 ⟨rfl, hb5⟩
        have HB5 := Lib.hid (below_then hB4 hb5)
        clear hb3 hb4 hb5 hB4 hrc
        go_wp2
        go_roundw
        case rel => exact ⟨j + 1, by omega, by go_num, HB5⟩
        case measure => simp [intOf]; omega
      · have e0 := f3 he
        subst e0
        have e2 : (er == 0) = false := beq_eq_false_iff_ne.2 he
        have e3 : (er != 0) = true := by rw [bne_iff_ne]; exact he
        have e4 : ((totalA [] : Int) != 0) = false := by simp [totalA]
        have HB5 := Lib.hid hB4
        clear f3 hd3 hb3 hb4 hB4 he
        go_wp2
        go_roundw
        case rel => exact ⟨j + 1, by omega, by go_num, HB5⟩
        case measure => simp [intOf]; omega
    · have hbl : decide ((j : Int) < 2) = false := decide_eq_false (by omega)
      have hak := awake_any wr (HT.out.below HBW.out)
      clear hlt hj
      go_wp2_with fail
      refine hak.mono ?_
      rintro e w5 ⟨rfl, hb5⟩
      go_wp2
      go_ret
      exact ⟨rfl, below_then HBW.out hb5⟩
end Go.Proofs.YtemamhjcboelcaaDoor.Tm
