/- Sweep's Live, Reach; the law's cost. -/
import Derived.Test.YthgnihckeckaiaaDoorSwR
import Derived.Test.YthgnihckeckaiaaDoorDpI
namespace Go.Proofs.YthgnihckeckaiaaDoor.Tm
open Go.RowKit
set_option linter.unusedVariables false
set_option linter.unusedSimpArgs false

theorem rchX_ok {L : List ObjA} (hw : WfA L) {roots : List Int} (hx : ∀ x ∈ roots, 0 ≤ x ∧ x < 18446744073709551616) : MetOk L (rchX L roots) := by
  unfold rchX
  split
  · rename_i h
    exact (rch_ok hw fun x q => ⟨(List.all_eq_true.1 h) x q, hx x q⟩).met
  · exact MetOk.nil L
set_option maxRecDepth 10000 in
set_option maxHeartbeats 4000000 in
theorem slive_any (w : World) (O : Nat → Prop) (ba room : Nat) (L : List ObjA) (roots : List Int) (A : Option Addr) (cap : Nat) (hA : ArAt w O ba room L) (hT : TabsA w) (hcl : ∀ o ∈ L, WfC o.cell) (hr : WReads w A roots) (hx : ∀ x ∈ roots, 0 ≤ x ∧ x < 18446744073709551616) (hlen : roots.length ≤ 1000000000000000000) :
    Calls Tryd.prog 48 #[.pointer (some ⟨ba, 0, none⟩), .slice A roots.length cap] w fun e w' => e = .returned (.tuple #[.int .i64 (costsW L (rchX L roots) : Int), .int .i64 (rootE L roots)]) ∧ Below w.heap.size w w' := by
  have hrd := reached_any w O ba room L roots A cap hA hr hx hlen
  have hok := rchX_ok hA.wf hx
  have hw := hA.wf
  have hlims := hA.lims
  have hll := hw.len
  have hml := hok.len
  have HA := Lib.hid hA
  have HT := Lib.hid hT
  have HCL := Lib.hid hcl
  have HX := Lib.hid hok.ok
  have HW := Lib.hid hw
  by_cases hall : allFind L roots = true
  · have hE : rootE L roots = 0 := by unfold rootE; rw [if_pos hall]
    rw [hE] at hrd ⊢
    generalize rchX L roots = m at *
    clear hA hT hcl hr hx hw hok hall hE
    go_enter Tryd.func48, Tryd.ntmps48
    go_wp2_with fail
    refine hrd.mono ?_
    rintro e w1 ⟨A1, c1, rfl, hrow, hb1⟩
    have HR := Lib.hid (WReads.of_row hrow)
    have HB1 := Lib.hid hb1
    clear hrd hrow hb1
    go_wp2_with fail
    go_loopw [8, 24] (fun s i wr => ∃ j : Nat, j ≤ m.length ∧ s = .int .i64 (costsW L (m.take j) : Int) ∧ i = .int .i64 (j : Int) ∧ Hid (Below w1.heap.size w1 wr)) (fun s i wr => m.length - (intOf i).toNat)
    case atStart => exact ⟨0, Nat.zero_le _, rfl, rfl, Lib.hid (Below.refl _ _)⟩
    case round =>
      obtain ⟨j, hj, rfl, rfl, hB0⟩ := hrel
      have hB := Lib.hid (below_then HB1.out hB0.out)
      have hcb := costsW_le HW.out HCL.out (m.take j)
      rw [List.length_take] at hcb
      by_cases hlt : j < m.length
      · obtain ⟨g, o, rfl, q0⟩ := (HR.out.below hB0.out) j hlt
        have hxo := (HX.out m[j] (List.getElem_mem hlt)).1
        have HTK := Lib.hid (show costsW L (m.take (j + 1)) = costsW L (m.take j) + costW L m[j] by rw [List.take_succ_eq_append_getElem hlt, costsW_snoc])
        obtain ⟨x, hxe⟩ : ∃ x, m[j] = x := ⟨_, rfl⟩
        rw [hxe] at q0 hxo HTK
        obtain ⟨c, ps, hs⟩ := find_seen hxo
        obtain ⟨g1, g2⟩ := seen_good HW.out HCL.out hs
        have hcw : costW L x = costC c := by unfold costW; rw [hs]
        have hcc := cost_le g1
        have hkd := kidsD_le c
        have hco := acost_any wr O ba room L x c ps hxo.2.1 hxo.2.2 (HA.out.below hB.out) (HT.out.below hB.out) hs g2 g1
        rw [hcw] at HTK
        have hj1 : (j : Int) < (m.length : Int) := by omega
        have hj0 : (0 : Int) ≤ (j : Int) := Int.natCast_nonneg _
        have hbl : decide ((j : Int) < (m.length : Int)) = true := decide_eq_true hj1
        have hmin : costsW L (m.take j) ≤ 384 * 262144 := by omega
        generalize costsW L (m.take j) = S0 at *
        generalize costC c = K at *
        clear hxe hs g1 g2 hcw hcb
        go_wp2_with fail
        refine hco.mono ?_
        rintro e w2 ⟨rfl, hb2⟩
        have HB2 := Lib.hid (below_then hB0.out hb2)
        clear hco hb2 q0
        go_wp2
        go_roundw
        case rel => exact ⟨j + 1, by omega, by rw [HTK.out]; go_num, by go_num, HB2⟩
        case measure => simp [intOf]; omega
      · obtain rfl : j = m.length := by omega
        rw [List.take_length]
        have hbl : decide ((m.length : Int) < (m.length : Int)) = false := decide_eq_false (by omega)
        go_wp2
        go_ret2
        exact ⟨rfl, hB.out⟩
  · have hE : rootE L roots = 31 := by unfold rootE; rw [if_neg hall]
    have hX0 : rchX L roots = [] := by unfold rchX; rw [if_neg hall]
    rw [hE, hX0] at hrd ⊢
    clear hA hT hcl hr hx hw hok hall hE
    go_enter Tryd.func48, Tryd.ntmps48
    go_wp2_with fail
    refine hrd.mono ?_
    rintro e w1 ⟨A1, c1, rfl, hrow, hb1⟩
    go_wp2
    go_ret2
    exact ⟨rfl, hb1⟩
theorem reached_nil (w : World) (A : Option Addr) (n cap : Nat) :
    Calls Tryd.prog 93 #[.pointer none, .slice A n cap] w fun e w' => e = .returned (.tuple #[.slice none 0 0, .int .i64 2]) ∧ Below w.heap.size w w' := by
  go_enter Tryd.func93, Tryd.ntmps93
  go_wp2
  go_ret2
  exact ⟨rfl, Below.refl _ _⟩
theorem slive_nil (w : World) (A : Option Addr) (n cap : Nat) :
    Calls Tryd.prog 48 #[.pointer none, .slice A n cap] w fun e w' => e = .returned (.tuple #[.int .i64 0, .int .i64 2]) ∧ Below w.heap.size w w' := by
  go_enter Tryd.func48, Tryd.ntmps48
  go_wp2_with fail
  refine (reached_nil w A n cap).mono ?_
  rintro e w1 ⟨rfl, hb1⟩
  go_wp2
  go_ret2
  exact ⟨rfl, hb1⟩
/-- Reach, of words: the iterator with its box. -/
theorem sreach_any (w : World) (O : Nat → Prop) (ba room : Nat) (L : List ObjA) (roots : List Int) (A : Option Addr) (cap : Nat) (hA : ArAt w O ba room L) (hr : WReads w A roots) (hx : ∀ x ∈ roots, 0 ≤ x ∧ x < 18446744073709551616) (hlen : roots.length ≤ 1000000000000000000) (hall : allFind L roots = true) :
    Calls Tryd.prog 100 #[.pointer (some ⟨ba, 0, none⟩), .slice A roots.length cap] w fun e w' => ∃ b A' c', e = .returned (.tuple #[.func (.func 130) #[] #[.pointer (some ⟨b, 0, none⟩)], .int .i64 0]) ∧ w.heap.size ≤ b ∧ w'.cell? ⟨b, 0, none⟩ = some (.slice A' (rchW L roots).length c') ∧ w'.ownsRow w.heap.size 27 1 (.slice A' (rchW L roots).length c') (rchW L roots).length (encW (rchW L roots)) ∧ Below w.heap.size w w' := by
  have hrd := reached_any w O ba room L roots A cap hA hr hx hlen
  have hE : rootE L roots = 0 := by unfold rootE; rw [if_pos hall]
  have hX0 : rchX L roots = rchW L roots := by unfold rchX; rw [if_pos hall]
  rw [hE, hX0] at hrd
  generalize rchW L roots = m at *
  clear hA hr hx hall hE hX0
  go_enter Tryd.func100, Tryd.ntmps100
  go_wp2_with fail
  refine hrd.mono ?_
  rintro e w1 ⟨A1, c1, rfl, hrow, hb1⟩
  have hbx := (Boxed.new w1 31 (.slice A1 m.length c1)).cell
  have HROW := Lib.hid (hrow.alloc (.cells #[.slice A1 m.length c1] 31))
  have HB1 := Lib.hid (below_alloc' hb1 (.cells #[.slice A1 m.length c1] 31))
  have hs := hb1.size
  have HBX := Lib.hid hbx
  clear hrd hrow hb1
  go_wp2
  go_ret2
  exact ⟨w1.heap.size, A1, c1, rfl, hs, HBX.out, HROW.out, HB1.out⟩
theorem sreach_bad (w : World) (O : Nat → Prop) (ba room : Nat) (L : List ObjA) (roots : List Int) (A : Option Addr) (cap : Nat) (hA : ArAt w O ba room L) (hr : WReads w A roots) (hx : ∀ x ∈ roots, 0 ≤ x ∧ x < 18446744073709551616) (hlen : roots.length ≤ 1000000000000000000) (hall : ¬ allFind L roots = true) :
    Calls Tryd.prog 100 #[.pointer (some ⟨ba, 0, none⟩), .slice A roots.length cap] w fun e w' => e = .returned (.tuple #[.nilFunc, .int .i64 31]) ∧ Below w.heap.size w w' := by
  have hrd := reached_any w O ba room L roots A cap hA hr hx hlen
  have hE : rootE L roots = 31 := by unfold rootE; rw [if_neg hall]
  have hX0 : rchX L roots = [] := by unfold rchX; rw [if_neg hall]
  rw [hE, hX0] at hrd
  clear hA hr hx hall hE hX0
  go_enter Tryd.func100, Tryd.ntmps100
  go_wp2_with fail
  refine hrd.mono ?_
  rintro e w1 ⟨A1, c1, rfl, hrow, hb1⟩
  go_wp2
  go_ret2
  exact ⟨rfl, below_alloc' hb1 _⟩
theorem sreach_nil (w : World) (A : Option Addr) (n cap : Nat) :
    Calls Tryd.prog 100 #[.pointer none, .slice A n cap] w fun e w' => e = .returned (.tuple #[.nilFunc, .int .i64 2]) ∧ Below w.heap.size w w' := by
  go_enter Tryd.func100, Tryd.ntmps100
  go_wp2_with fail
  refine (reached_nil w A n cap).mono ?_
  rintro e w1 ⟨rfl, hb1⟩
  go_wp2
  go_ret2
  exact ⟨rfl, below_alloc' hb1 _⟩
set_option maxHeartbeats 1000000 in
theorem scost_any (w : World) (O : Nat → Prop) (ba room : Nat) (L : List ObjA) (m : List Int) (A : Option Addr) (cap : Nat) (hA : ArAt w O ba room L) (hT : TabsA w) (hcl : ∀ o ∈ L, WfC o.cell) (hr : WReads w A m) (hx : ∀ x ∈ m, FindOk L x) (hl : m.length ≤ 262144) :
    Calls Tryd.prog 54 #[.pointer (some ⟨ba, 0, none⟩), .slice A m.length cap] w fun e w' => e = .returned (.int .i64 (costsW L m : Int)) ∧ Below w.heap.size w w' := by
  have hw := hA.wf
  have HA := Lib.hid hA
  have HT := Lib.hid hT
  have HCL := Lib.hid hcl
  have HR := Lib.hid hr
  have HX := Lib.hid hx
  have HW := Lib.hid hw
  clear hA hT hcl hr hx hw
  go_enter Tryd.func54, Tryd.ntmps54
  go_wp2_with fail
  go_loopw [5, 6] (fun s i wr => ∃ j : Nat, j ≤ m.length ∧ s = .int .i64 (costsW L (m.take j) : Int) ∧ i = .int .i64 (j : Int) ∧ Hid (Below w.heap.size w wr)) (fun s i wr => m.length - (intOf i).toNat)
  case atStart => exact ⟨0, Nat.zero_le _, rfl, rfl, Lib.hid (Below.refl _ _)⟩
  case round =>
    obtain ⟨j, hj, rfl, rfl, hB⟩ := hrel
    have hcb := costsW_le HW.out HCL.out (m.take j)
    rw [List.length_take] at hcb
    by_cases hlt : j < m.length
    · obtain ⟨g, o, rfl, q0⟩ := (HR.out.below hB.out) j hlt
      have hxo := HX.out m[j] (List.getElem_mem hlt)
      have HTK := Lib.hid (show costsW L (m.take (j + 1)) = costsW L (m.take j) + costW L m[j] by rw [List.take_succ_eq_append_getElem hlt, costsW_snoc])
      obtain ⟨x, hxe⟩ : ∃ x, m[j] = x := ⟨_, rfl⟩
      rw [hxe] at q0 hxo HTK
      obtain ⟨c, ps, hs⟩ := find_seen hxo
      obtain ⟨g1, g2⟩ := seen_good HW.out HCL.out hs
      have hcw : costW L x = costC c := by unfold costW; rw [hs]
      have hcc := cost_le g1
      have hkd := kidsD_le c
      have hco := acost_any wr O ba room L x c ps hxo.2.1 hxo.2.2 (HA.out.below hB.out) (HT.out.below hB.out) hs g2 g1
      rw [hcw] at HTK
      have hj1 : (j : Int) < (m.length : Int) := by omega
      have hj0 : (0 : Int) ≤ (j : Int) := Int.natCast_nonneg _
      have hbl : decide ((j : Int) < (m.length : Int)) = true := decide_eq_true hj1
      have hmin : costsW L (m.take j) ≤ 384 * 262144 := by omega
      generalize costsW L (m.take j) = S0 at *
      generalize costC c = K at *
      clear hxe hs g1 g2 hcw hcb
      go_wp2_with fail
      refine hco.mono ?_
      rintro e w2 ⟨rfl, hb2⟩
      have HB2 := Lib.hid (below_then hB.out hb2)
      clear hco hb2 q0
      go_wp2
      go_roundw
      case rel => exact ⟨j + 1, by omega, by rw [HTK.out]; go_num, by go_num, HB2⟩
      case measure => simp [intOf]; omega
    · obtain rfl : j = m.length := by omega
      rw [List.take_length]
      go_wp2
      go_ret
      exact ⟨rfl, hB.out⟩
end Go.Proofs.YthgnihckeckaiaaDoor.Tm
