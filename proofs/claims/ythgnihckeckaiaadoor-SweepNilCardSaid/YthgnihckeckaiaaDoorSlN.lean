/- SweepNil: the walk. -/
import Derived.Test.YthgnihckeckaiaaDoorSwK
namespace Go.Proofs.YthgnihckeckaiaaDoor.Tm
open Go.RowKit Go.Shelf
set_option linter.unusedVariables false
set_option linter.unusedSimpArgs false

set_option maxRecDepth 10000 in
set_option maxHeartbeats 4000000 in
theorem sweepNil_row (x c : Int) (w : World) (hT : TabsA w) (wx : (Lit.int .u64 x).wf = true) (wc : (Lit.int .i64 c).wf = true) :
    Calls Tryd.prog 14 #[.int .u64 x, .int .i64 c] w fun e w' => e = .returned (.bool true) ∧ Below w.heap.size w w' := by
  have hkn := fun V (hb : Below w.heap.size w V) => sknown_any V (hT.below hb)
  have HK := Lib.hid hkn
  have hb1 := below_one w (.cells #[.int .u64 x] 27)
  have HB1 := Lib.hid hb1
  clear hT hkn hb1
  go_enter Tryd.func14, Tryd.ntmps14
  go_wp2_with fail
  refine (stold_nil _ _ 1 1 0).mono ?_
  rintro e w1 ⟨rfl, hb1⟩
  have HB2 := Lib.hid (below_alloc' (below_then HB1.out hb1) (.cells #[.int .u64 x] 27))
  clear hb1
  go_wp2_with fail
  refine (slive_nil _ _ 1 1).mono ?_
  rintro e w2 ⟨rfl, hb2⟩
  have HB3 := Lib.hid (below_then HB2.out hb2)
  clear hb2
  go_wp2_with fail
  refine (collect_nil _ none 0 0 c).mono ?_
  rintro e w3 ⟨rfl, hb3⟩
  have HB4 := Lib.hid (below_then HB3.out hb3)
  clear hb3
  have hk := HK.out w3 HB4.out
  go_wp2_with fail
  refine hk.mono ?_
  rintro e w4 ⟨rfl, hb4⟩
  go_wp2
  go_ret
  exact ⟨rfl, below_then HB4.out hb4⟩
end Go.Proofs.YthgnihckeckaiaaDoor.Tm
