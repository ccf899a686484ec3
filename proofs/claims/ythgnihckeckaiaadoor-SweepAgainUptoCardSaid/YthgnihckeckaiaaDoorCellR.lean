/- What is wrong of a cell: both texts tell cellE. -/
import Derived.Test.YthgnihckeckaiaaDoorRows
import Derived.Test.YthgnihckeckaiaaDoorBase
import Derived.Test.YthgnihckeckaiaaDoorUtfR
import Derived.Test.YthgnihckeckaiaaDoorCellW
import Derived.Handy
namespace Go.Proofs.YthgnihckeckaiaaDoor.Tm
open Go.RowKit
set_option linter.unusedVariables false
set_option linter.unusedSimpArgs false
set_option maxHeartbeats 2000000 in
theorem rcell_any (c : CellD) (w : World) (hs : c.text.size ≤ 9223372036854775807) :
    Calls Tryd.prog 108 #[.agg #[.int .i64 c.kind, .int .i64 c.n, .string c.text]] w fun e w' => e = .returned (.int .i64 (cellE c)) ∧ Below w.heap.size w w' := by
  obtain ⟨k, n, t⟩ := c
  simp only at hs
  by_cases hlo : k < 1
  · skip
    have e : cellE ⟨k, n, t⟩ = 3 := by simp [cellE, hlo]
    have H := Lib.hid e
    clear e
    go_enter Tryd.func108, Tryd.ntmps108
    go_wp2
    go_ret
    exact ⟨by rw [H.out]; rfl, below_one _ _⟩
  by_cases hhi : 8 < k
  · skip
    have e : cellE ⟨k, n, t⟩ = 3 := by simp [cellE, hhi]
    have H := Lib.hid e
    clear e
    go_enter Tryd.func108, Tryd.ntmps108
    go_wp2
    go_ret
    exact ⟨by rw [H.out]; rfl, below_one _ _⟩
  rcases (show k = 1 ∨ k = 2 ∨ k = 3 ∨ k = 4 ∨ k = 5 ∨ k = 6 ∨ k = 7 ∨ k = 8 from by omega) with rfl | rfl | rfl | rfl | rfl | rfl | rfl | rfl
  · clear hlo hhi
    by_cases ht : t.size = 0
    · have hx := text_nil ht
      have e : cellE ⟨1, n, t⟩ = 0 := by simp [cellE, ht]
      have H := Lib.hid e
      clear e
      go_enter Tryd.func108, Tryd.ntmps108
      go_wp2
      go_ret
      exact ⟨by rw [H.out]; rfl, below_one _ _⟩
    · have hx := text_some ht
      have e : cellE ⟨1, n, t⟩ = 3 := by simp [cellE, ht]
      have H := Lib.hid e
      clear e
      go_enter Tryd.func108, Tryd.ntmps108
      go_wp2
      go_ret
      exact ⟨by rw [H.out]; rfl, below_one _ _⟩
  · clear hlo hhi
    by_cases hn : n = 0
    · subst hn
      by_cases hl : 255 < t.size
      · skip
        have e : cellE ⟨2, 0, t⟩ = 20 := by simp [cellE, hl]
        have H := Lib.hid e
        clear e
        go_enter Tryd.func108, Tryd.ntmps108
        go_wp2
        go_ret
        exact ⟨by rw [H.out]; rfl, below_one _ _⟩
      cases hu : utf8B t with
      | false =>
        have e : cellE ⟨2, 0, t⟩ = 20 := by simp [cellE, hu]
        have H := Lib.hid e
        clear e
        go_enter Tryd.func108, Tryd.ntmps108
        go_wp2_with fail
        refine (utf8_any t _ (by omega)).mono ?_
        rintro e w' ⟨rfl, rfl⟩
        rw [hu]
        go_wp2
        go_ret
        exact ⟨by rw [H.out]; rfl, below_one _ _⟩
      | true =>
        have e : cellE ⟨2, 0, t⟩ = 0 := by simp [cellE, hu]; omega
        have H := Lib.hid e
        clear e
        go_enter Tryd.func108, Tryd.ntmps108
        go_wp2_with fail
        refine (utf8_any t _ (by omega)).mono ?_
        rintro e w' ⟨rfl, rfl⟩
        rw [hu]
        go_wp2
        go_ret
        exact ⟨by rw [H.out]; rfl, below_one _ _⟩
    · skip
      have e : cellE ⟨2, n, t⟩ = 3 := by simp [cellE, hn]
      have H := Lib.hid e
      clear e
      go_enter Tryd.func108, Tryd.ntmps108
      go_wp2
      go_ret
      exact ⟨by rw [H.out]; rfl, below_one _ _⟩
  · clear hlo hhi
    by_cases ht : t.size = 0
    · have hx := text_nil ht
      by_cases h1 : n < 1
      · skip
        have e : cellE ⟨3, n, t⟩ = 1 := by simp [cellE, ht, h1]
        have H := Lib.hid e
        clear e
        go_enter Tryd.func108, Tryd.ntmps108
        go_wp2
        go_ret
        exact ⟨by rw [H.out]; rfl, below_one _ _⟩
      by_cases h2 : 281474976710656 < n
      · skip
        have e : cellE ⟨3, n, t⟩ = 1 := by simp [cellE, ht, h2]
        have H := Lib.hid e
        clear e
        go_enter Tryd.func108, Tryd.ntmps108
        go_wp2
        go_ret
        exact ⟨by rw [H.out]; rfl, below_one _ _⟩
      · skip
        have e : cellE ⟨3, n, t⟩ = 0 := by simp [cellE, ht, h1, h2]
        have H := Lib.hid e
        clear e
        go_enter Tryd.func108, Tryd.ntmps108
        go_wp2
        go_ret
        exact ⟨by rw [H.out]; rfl, below_one _ _⟩
    · have hx := text_some ht
      have e : cellE ⟨3, n, t⟩ = 3 := by simp [cellE, ht]
      have H := Lib.hid e
      clear e
      go_enter Tryd.func108, Tryd.ntmps108
      go_wp2
      go_ret
      exact ⟨by rw [H.out]; rfl, below_one _ _⟩
  · clear hlo hhi
    by_cases ht : t.size = 0
    · have hx := text_nil ht
      by_cases h1 : n < 1
      · skip
        have e : cellE ⟨4, n, t⟩ = 1 := by simp [cellE, ht, h1]
        have H := Lib.hid e
        clear e
        go_enter Tryd.func108, Tryd.ntmps108
        go_wp2
        go_ret
        exact ⟨by rw [H.out]; rfl, below_one _ _⟩
      by_cases h2 : 1099511627776 < n
      · skip
        have e : cellE ⟨4, n, t⟩ = 1 := by simp [cellE, ht, h2]
        have H := Lib.hid e
        clear e
        go_enter Tryd.func108, Tryd.ntmps108
        go_wp2
        go_ret
        exact ⟨by rw [H.out]; rfl, below_one _ _⟩
      · skip
        have e : cellE ⟨4, n, t⟩ = 0 := by simp [cellE, ht, h1, h2]
        have H := Lib.hid e
        clear e
        go_enter Tryd.func108, Tryd.ntmps108
        go_wp2
        go_ret
        exact ⟨by rw [H.out]; rfl, below_one _ _⟩
    · have hx := text_some ht
      have e : cellE ⟨4, n, t⟩ = 3 := by simp [cellE, ht]
      have H := Lib.hid e
      clear e
      go_enter Tryd.func108, Tryd.ntmps108
      go_wp2
      go_ret
      exact ⟨by rw [H.out]; rfl, below_one _ _⟩
  · clear hlo hhi
    by_cases ht : t.size = 0
    · have hx := text_nil ht
      by_cases h1 : n < 0
      · skip
        have e : cellE ⟨5, n, t⟩ = 1 := by simp [cellE, ht, h1]
        have H := Lib.hid e
        clear e
        go_enter Tryd.func108, Tryd.ntmps108
        go_wp2
        go_ret
        exact ⟨by rw [H.out]; rfl, below_one _ _⟩
      by_cases h2 : 255 < n
      · skip
        have e : cellE ⟨5, n, t⟩ = 1 := by simp [cellE, ht, h2]
        have H := Lib.hid e
        clear e
        go_enter Tryd.func108, Tryd.ntmps108
        go_wp2
        go_ret
        exact ⟨by rw [H.out]; rfl, below_one _ _⟩
      · skip
        have e : cellE ⟨5, n, t⟩ = 0 := by simp [cellE, ht, h1, h2]
        have H := Lib.hid e
        clear e
        go_enter Tryd.func108, Tryd.ntmps108
        go_wp2
        go_ret
        exact ⟨by rw [H.out]; rfl, below_one _ _⟩
    · have hx := text_some ht
      have e : cellE ⟨5, n, t⟩ = 3 := by simp [cellE, ht]
      have H := Lib.hid e
      clear e
      go_enter Tryd.func108, Tryd.ntmps108
      go_wp2
      go_ret
      exact ⟨by rw [H.out]; rfl, below_one _ _⟩
  · clear hlo hhi
    by_cases ht : t.size = 0
    · have hx := text_nil ht
      by_cases hn : n = 0
      · skip
        have e : cellE ⟨6, n, t⟩ = 0 := by simp [cellE, ht, hn]
        have H := Lib.hid e
        clear e
        go_enter Tryd.func108, Tryd.ntmps108
        go_wp2
        go_ret
        exact ⟨by rw [H.out]; rfl, below_one _ _⟩
      · skip
        have e : cellE ⟨6, n, t⟩ = 3 := by simp [cellE, ht, hn]
        have H := Lib.hid e
        clear e
        go_enter Tryd.func108, Tryd.ntmps108
        go_wp2
        go_ret
        exact ⟨by rw [H.out]; rfl, below_one _ _⟩
    · have hx := text_some ht
      have e : cellE ⟨6, n, t⟩ = 3 := by simp [cellE, ht]
      have H := Lib.hid e
      clear e
      go_enter Tryd.func108, Tryd.ntmps108
      go_wp2
      go_ret
      exact ⟨by rw [H.out]; rfl, below_one _ _⟩
  · clear hlo hhi
    by_cases ht : t.size = 0
    · have hx := text_nil ht
      by_cases hn : n = 0
      · skip
        have e : cellE ⟨7, n, t⟩ = 0 := by simp [cellE, ht, hn]
        have H := Lib.hid e
        clear e
        go_enter Tryd.func108, Tryd.ntmps108
        go_wp2
        go_ret
        exact ⟨by rw [H.out]; rfl, below_one _ _⟩
      · skip
        have e : cellE ⟨7, n, t⟩ = 3 := by simp [cellE, ht, hn]
        have H := Lib.hid e
        clear e
        go_enter Tryd.func108, Tryd.ntmps108
        go_wp2
        go_ret
        exact ⟨by rw [H.out]; rfl, below_one _ _⟩
    · have hx := text_some ht
      have e : cellE ⟨7, n, t⟩ = 3 := by simp [cellE, ht]
      have H := Lib.hid e
      clear e
      go_enter Tryd.func108, Tryd.ntmps108
      go_wp2
      go_ret
      exact ⟨by rw [H.out]; rfl, below_one _ _⟩
  · clear hlo hhi
    by_cases hn : n = 0
    · subst hn
      by_cases hl : 1024 < t.size
      · skip
        have e : cellE ⟨8, 0, t⟩ = 4 := by simp [cellE, hl]
        have H := Lib.hid e
        clear e
        go_enter Tryd.func108, Tryd.ntmps108
        go_wp2
        go_ret
        exact ⟨by rw [H.out]; rfl, below_one _ _⟩
      · skip
        have e : cellE ⟨8, 0, t⟩ = 0 := by simp [cellE, hl]
        have H := Lib.hid e
        clear e
        go_enter Tryd.func108, Tryd.ntmps108
        go_wp2
        go_ret
        exact ⟨by rw [H.out]; rfl, below_one _ _⟩
    · skip
      have e : cellE ⟨8, n, t⟩ = 3 := by simp [cellE, hn]
      have H := Lib.hid e
      clear e
      go_enter Tryd.func108, Tryd.ntmps108
      go_wp2
      go_ret
      exact ⟨by rw [H.out]; rfl, below_one _ _⟩
end Go.Proofs.YthgnihckeckaiaaDoor.Tm
