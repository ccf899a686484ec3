/- DeepNil: the walk. -/
import Derived.Test.YthgnihckeckaiaaDoorDpK
import Derived.Test.YthgnihckeckaiaaDoorDpA
import Derived.Test.YthgnihckeckaiaaDoorDpT
namespace Go.Proofs.YthgnihckeckaiaaDoor.Tm
open Go.RowKit
set_option linter.unusedVariables false
set_option linter.unusedSimpArgs false

theorem wf_word {x : Int} (h : (Lit.int .u64 x).wf = true) : 0 ≤ x ∧ x < 18446744073709551616 := by
  simp [Lit.wf, IntKind.min, IntKind.max, IntKind.signed, IntKind.bits] at h
  omega
theorem wf_num {x : Int} (h : (Lit.int .i64 x).wf = true) : -9223372036854775808 ≤ x ∧ x < 9223372036854775808 := by
  simp [Lit.wf, IntKind.min, IntKind.max, IntKind.signed, IntKind.bits] at h
  omega
set_option maxRecDepth 10000 in
set_option maxHeartbeats 4000000 in
theorem deepNil_row (A : Option Addr) (cap : Nat) (ops : List Op4) (x y : Int) (w : World) (hT : TabsA w) (hcap : ops.length ≤ cap) (hr : Script4 w A ops) (hk : ∀ op ∈ ops, Op4Ok op) (hl : ops.length ≤ 1000000000000000) (wx : (Lit.int .u64 x).wf = true) (wy : (Lit.int .u64 y).wf = true) :
    Calls Tryd.prog 11 #[.slice A ops.length cap, .int .u64 x, .int .u64 y] w fun e w' => e = .returned (.bool true) ∧ Below w.heap.size w w' := by
  have hmk := made4_any w 400 ops A cap hT hr hk hl hcap (by omega)
  have HT := Lib.hid hT
  have hxr := wf_word wx
  clear hT hr hk wx wy
  go_enter Tryd.func11, Tryd.ntmps11
  go_wp2_with fail
  refine hmk.mono ?_
  rintro e w1 ⟨ba, O, L, l, A1, c1, rfl, hM⟩
  have hB1 := hM.base
  clear hmk hM
  go_wp2_with fail
  refine (dcells_nil w1 x).mono ?_
  rintro e w2 ⟨rfl, hw⟩
  subst hw
  go_wp2_with fail
  refine (copy_from_nil w2 x _).mono ?_
  rintro e w3 ⟨rfl, hw⟩
  subst hw
  go_wp2_with fail
  refine (copy_to_nil w3 x ba).mono ?_
  rintro e w4 ⟨rfl, hw⟩
  subst hw
  go_wp2_with fail
  refine (equal_nil1 w4 x y _).mono ?_
  rintro e w5 ⟨rfl, hw⟩
  subst hw
  go_wp2_with fail
  refine (equal_nil2 w5 x y ba).mono ?_
  rintro e w6 ⟨rfl, hw⟩
  subst hw
  have hB2 := below_alloc' hB1 (.cells #[.int .u64 x] 27)
  go_wp2_with fail
  refine (reach_nil _ _ 1 1).mono ?_
  rintro e w7 ⟨rfl, hb⟩
  have hB3 := below_then hB2 hb
  go_wp2_with fail
  refine (depth_nil w7 x).mono ?_
  rintro e w8 ⟨rfl, hb2⟩
  have hB4 := below_then hB3 hb2
  go_wp2_with fail
  refine (shared_nil w8 x).mono ?_
  rintro e w9 ⟨rfl, hw⟩
  subst hw
  go_wp2_with fail
  refine (told_nil w9 x 1 (by omega)).mono ?_
  rintro e w10 ⟨A10, c10, rfl, hb3⟩
  have hB5 := below_then hB4 hb3
  have hak := awake_any w10 (HT.out.below hB5)
  clear hb hb2 hb3 hB1 hB2 hB3 hB4
  go_wp2_with fail
  refine hak.mono ?_
  rintro e w11 ⟨rfl, hb4⟩
  go_wp2
  go_ret
  exact ⟨rfl, below_then hB5 hb4⟩
end Go.Proofs.YthgnihckeckaiaaDoor.Tm
