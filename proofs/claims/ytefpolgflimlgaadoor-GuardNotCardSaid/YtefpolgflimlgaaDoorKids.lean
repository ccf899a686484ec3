/- How many terms stand behind a cell: both texts. -/
import Derived.Test.YtefpolgflimlgaaDoorRows
import Derived.Test.YtefpolgflimlgaaDoorReads
namespace Go.Proofs.YtefpolgflimlgaaDoor.Tm
open Go.RowKit
set_option linter.unusedVariables false
set_option linter.unusedSimpArgs false

theorem behind_any (c : CellD) (w : World) : Calls Tryd.prog 154 #[.agg #[.int .i64 c.kind, .int .i64 c.n, .string c.text]] w fun e w' => e = .returned (.int .i64 (kidsD c)) ∧ Below w.heap.size w w' := by
  by_cases h7 : c.kind = 7
  · have e : kidsD c = 2 := by simp [kidsD, h7]
    have H := Lib.hid e
    clear e
    go_enter Tryd.func154, Tryd.ntmps154
    go_wp2
    go_ret
    exact ⟨by rw [H.out]; rfl, below_one _ _⟩
  · by_cases h5 : c.kind = 5
    · by_cases h0 : 0 ≤ c.n
      · by_cases h1 : c.n ≤ 255
        · have e : (kidsD c : Int) = c.n := by unfold kidsD; rw [if_neg h7, if_pos ⟨h5, h0, h1⟩]; omega
          have H := Lib.hid e
          clear e
          go_enter Tryd.func154, Tryd.ntmps154
          go_wp2
          go_ret
          exact ⟨by rw [H.out]; rfl, below_one _ _⟩
        · have e : kidsD c = 0 := by simp [kidsD, h5, h1]
          have H := Lib.hid e
          clear e
          go_enter Tryd.func154, Tryd.ntmps154
          go_wp2
          go_ret
          exact ⟨by rw [H.out]; rfl, below_one _ _⟩
      · have e : kidsD c = 0 := by simp [kidsD, h5, h0]
        have H := Lib.hid e
        clear e
        go_enter Tryd.func154, Tryd.ntmps154
        go_wp2
        go_ret
        exact ⟨by rw [H.out]; rfl, below_one _ _⟩
    · have e : kidsD c = 0 := by simp [kidsD, h5, h7]
      have H := Lib.hid e
      clear e
      go_enter Tryd.func154, Tryd.ntmps154
      go_wp2
      go_ret
      exact ⟨by rw [H.out]; rfl, below_one _ _⟩
theorem rkids_any (c : CellD) (w : World) : Calls Tryd.prog 129 #[.agg #[.int .i64 c.kind, .int .i64 c.n, .string c.text]] w fun e w' => e = .returned (.int .i64 (kidsD c)) ∧ Below w.heap.size w w' := by
  by_cases h7 : c.kind = 7
  · have e : kidsD c = 2 := by simp [kidsD, h7]
    have H := Lib.hid e
    clear e
    go_enter Tryd.func129, Tryd.ntmps129
    go_wp2
    go_ret
    exact ⟨by rw [H.out]; rfl, below_one _ _⟩
  · by_cases h5 : c.kind = 5
    · by_cases h0 : 0 ≤ c.n
      · by_cases h1 : c.n ≤ 255
        · have e : (kidsD c : Int) = c.n := by unfold kidsD; rw [if_neg h7, if_pos ⟨h5, h0, h1⟩]; omega
          have H := Lib.hid e
          clear e
          go_enter Tryd.func129, Tryd.ntmps129
          go_wp2
          go_ret
          exact ⟨by rw [H.out]; rfl, below_one _ _⟩
        · have e : kidsD c = 0 := by simp [kidsD, h5, h1]
          have H := Lib.hid e
          clear e
          go_enter Tryd.func129, Tryd.ntmps129
          go_wp2
          go_ret
          exact ⟨by rw [H.out]; rfl, below_one _ _⟩
      · have e : kidsD c = 0 := by simp [kidsD, h5, h0]
        have H := Lib.hid e
        clear e
        go_enter Tryd.func129, Tryd.ntmps129
        go_wp2
        go_ret
        exact ⟨by rw [H.out]; rfl, below_one _ _⟩
    · have e : kidsD c = 0 := by simp [kidsD, h5, h7]
      have H := Lib.hid e
      clear e
      go_enter Tryd.func129, Tryd.ntmps129
      go_wp2
      go_ret
      exact ⟨by rw [H.out]; rfl, below_one _ _⟩
end Go.Proofs.YtefpolgflimlgaaDoor.Tm
