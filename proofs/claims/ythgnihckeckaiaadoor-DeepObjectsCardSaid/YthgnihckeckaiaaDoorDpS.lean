/- The law's costs; SameWords. -/
import Derived.Test.YthgnihckeckaiaaDoorDpR
namespace Go.Proofs.YthgnihckeckaiaaDoor.Tm
open Go.RowKit
set_option linter.unusedVariables false
set_option linter.unusedSimpArgs false

set_option maxHeartbeats 1000000 in
theorem costs_any (w : World) (O : Nat → Prop) (ba room : Nat) (L : List ObjA) (m : List Int) (A : Option Addr) (cap : Nat) (hA : ArAt w O ba room L) (hT : TabsA w) (hcl : ∀ o ∈ L, WfC o.cell) (hr : WReads w A m) (hx : ∀ x ∈ m, FindOk L x) (hl : m.length ≤ 262144) :
    Calls Tryd.prog 38 #[.pointer (some ⟨ba, 0, none⟩), .slice A m.length cap] w fun e w' => e = .returned (.int .i64 (costsW L m : Int)) ∧ Below w.heap.size w w' := by
  have hw := hA.wf
  have HA := Lib.hid hA
  have HT := Lib.hid hT
  have HCL := Lib.hid hcl
  have HR := Lib.hid hr
  have HX := Lib.hid hx
  have HW := Lib.hid hw
  clear hA hT hcl hr hx hw
  go_enter Tryd.func38, Tryd.ntmps38
  go_wp2_with fail
  go_loopw [5, 12] (fun s i wr => ∃ j : Nat, j ≤ m.length ∧ s = .int .i64 (costsW L (m.take j) : Int) ∧ i = .int .i64 (j : Int) ∧ Hid (Below w.heap.size w wr)) (fun s i wr => m.length - (intOf i).toNat)
  case atStart => exact ⟨0, Nat.zero_le _, rfl, rfl, Lib.hid (Below.refl _ _)⟩
  case round =>
    obtain ⟨j, hj, rfl, rfl, hB⟩ := hrel
    have hcb := costsW_le HW.out HCL.out (m.take j)
    rw [List.length_take] at hcb
    by_cases hlt : j < m.length
    · obtain ⟨g, o, rfl, q0⟩ := (HR.out.below hB.out) j hlt
      have hxo := HX.out m[j] (List.getElem_mem hlt)
      have HTK := Lib.hid (show costsW L (m.take (j + 1)) = costsW L (m.take j) + costW L m[j] by rw [List.take_succ_eq_append_getElem hlt, costsW_snoc])
      obtain ⟨x, hxe⟩ : ∃ x, m[j] = x := ⟨_, rfl⟩
      rw [hxe] at q0 hxo HTK
      obtain ⟨c, ps, hs⟩ := find_seen hxo
      obtain ⟨g1, g2⟩ := seen_good HW.out HCL.out hs
      have hcw : costW L x = costC c := by unfold costW; rw [hs]
      have hcc := cost_le g1
      have hkd := kidsD_le c
      have hco := acost_any wr O ba room L x c ps hxo.2.1 hxo.2.2 (HA.out.below hB.out) (HT.out.below hB.out) hs g2 g1
      rw [hcw] at HTK
      have hj1 : (j : Int) < (m.length : Int) := by omega
      have hj0 : (0 : Int) ≤ (j : Int) := Int.natCast_nonneg _
      have hbl : decide ((j : Int) < (m.length : Int)) = true := decide_eq_true hj1
      have hmin : costsW L (m.take j) ≤ 384 * 262144 := by omega
      generalize costsW L (m.take j) = S0 at *
      generalize costC c = K at *
      clear hxe hs g1 g2 hcw hcb
      go_wp2_with fail
      refine hco.mono ?_
      rintro e w2 ⟨rfl, hb2⟩
      have HB2 := Lib.hid (below_then hB.out hb2)
      clear hco hb2 q0
      go_wp2
      go_roundw
      case rel => exact ⟨j + 1, by omega, by rw [HTK.out]; go_num, by go_num, HB2⟩
      case measure => simp [intOf]; omega
    · obtain rfl : j = m.length := by omega
      rw [List.take_length]
      go_wp2
      go_ret
      exact ⟨rfl, hB.out⟩
set_option maxHeartbeats 2000000 in
theorem samewords_any (w : World) (xs : List Int) (A B : Option Addr) (c d : Nat) (hA : WReads w A xs) (hB : WReads w B xs) (hl : xs.length ≤ 1000000) :
    Calls Tryd.prog 36 #[.slice A xs.length c, .slice B xs.length d] w fun e w' => e = .returned (.bool true) ∧ Below w.heap.size w w' := by
  have hlb : ((xs.length : Int) != (xs.length : Int)) = false := by simp
  have HA := Lib.hid hA
  have HB := Lib.hid hB
  clear hA hB
  go_enter Tryd.func36, Tryd.ntmps36
  go_wp2_with fail
  go_loopw [5] (fun i wr => ∃ k : Nat, k ≤ xs.length ∧ i = .int .i64 (k : Int) ∧ Hid (Below w.heap.size w wr)) (fun i wr => xs.length - (intOf i).toNat)
  case atStart => exact ⟨0, Nat.zero_le _, rfl, Lib.hid (Below.refl _ _)⟩
  case round =>
    obtain ⟨k, hk, rfl, hW⟩ := hrel
    by_cases hlt : k < xs.length
    · obtain ⟨g, o, rfl, hc⟩ := (HA.out.below hW.out) k hlt
      obtain ⟨g2, o2, rfl, hc2⟩ := (HB.out.below hW.out) k hlt
      obtain ⟨x, hx⟩ : ∃ x, xs[k] = x := ⟨_, rfl⟩
      rw [hx] at hc hc2
      have hxx : (x != x) = false := by simp
      have hk1 : (k : Int) < (xs.length : Int) := by omega
      have hk0 : (0 : Int) ≤ (k : Int) := Int.natCast_nonneg _
      clear hx
      go_wp2_with fail
      go_quiet (fail)
      go_wp2
      go_roundw
      case rel => exact ⟨k + 1, by omega, by go_num, Lib.hid (below_drewA hW.out _)⟩
      case measure => simp [intOf]; omega
    · obtain rfl : k = xs.length := by omega
      go_wp2
      go_ret
      exact ⟨rfl, hW.out⟩
end Go.Proofs.YthgnihckeckaiaaDoor.Tm
