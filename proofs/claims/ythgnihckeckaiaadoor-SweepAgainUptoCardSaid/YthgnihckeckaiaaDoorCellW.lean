/- What is wrong of a cell: both texts tell cellE. -/
import Derived.Test.YthgnihckeckaiaaDoorRows
import Derived.Test.YthgnihckeckaiaaDoorBase
import Derived.Handy
namespace Go.Proofs.YthgnihckeckaiaaDoor.Tm
open Go.RowKit
set_option linter.unusedVariables false
set_option linter.unusedSimpArgs false
theorem text_list (t : ByteArray) : t.toList.length = t.size := by
  rw [ByteArray.toList_eq]; exact Array.length_toList
theorem text_nil {t : ByteArray} (h : t.size = 0) : t.toList.isEmpty = true := by
  have := text_list t
  rw [h] at this
  rw [List.isEmpty_iff]
  exact List.eq_nil_of_length_eq_zero this
theorem text_some {t : ByteArray} (h : ¬ t.size = 0) : t.toList.isEmpty = false := by
  have := text_list t
  cases e : t.toList with
  | nil => rw [e] at this; exact absurd this.symm h
  | cons a l => rfl
set_option maxHeartbeats 2000000 in
theorem wcell_any (c : CellD) (w : World) (hs : c.text.size ≤ 9223372036854775807) (hT : Lib.Utf8Tabs 1 2 w) :
    Calls Tryd.prog 101 #[.agg #[.int .i64 c.kind, .int .i64 c.n, .string c.text]] w fun e w' => e = .returned (.int .i64 (cellE c)) ∧ Below w.heap.size w w' := by
  obtain ⟨k, n, t⟩ := c
  simp only at hs
  by_cases hlo : k < 1
  · skip
    have e : cellE ⟨k, n, t⟩ = 3 := by simp [cellE, hlo]
    have H := Lib.hid e
    clear e
    go_enter Tryd.func101, Tryd.ntmps101
    go_wp2
    go_ret
    exact ⟨by rw [H.out]; rfl, below_one _ _⟩
  by_cases hhi : 8 < k
  · skip
    have e : cellE ⟨k, n, t⟩ = 3 := by simp [cellE, hhi]
    have H := Lib.hid e
    clear e
    go_enter Tryd.func101, Tryd.ntmps101
    go_wp2
    go_ret
    exact ⟨by rw [H.out]; rfl, below_one _ _⟩
  rcases (show k = 1 ∨ k = 2 ∨ k = 3 ∨ k = 4 ∨ k = 5 ∨ k = 6 ∨ k = 7 ∨ k = 8 from by omega) with rfl | rfl | rfl | rfl | rfl | rfl | rfl | rfl
  · clear hlo hhi
    by_cases ht : t.size = 0
    · have hx := text_nil ht
      have e : cellE ⟨1, n, t⟩ = 0 := by simp [cellE, ht]
      have H := Lib.hid e
      clear e
      go_enter Tryd.func101, Tryd.ntmps101
      go_wp2
      go_ret
      exact ⟨by rw [H.out]; rfl, below_one _ _⟩
    · have hx := text_some ht
      have e : cellE ⟨1, n, t⟩ = 3 := by simp [cellE, ht]
      have H := Lib.hid e
      clear e
      go_enter Tryd.func101, Tryd.ntmps101
      go_wp2
      go_ret
      exact ⟨by rw [H.out]; rfl, below_one _ _⟩
  · clear hlo hhi
    by_cases hn : n = 0
    · subst hn
      by_cases hl : 255 < t.size
      · skip
        have e : cellE ⟨2, 0, t⟩ = 20 := by simp [cellE, hl]
        have H := Lib.hid e
        clear e
        go_enter Tryd.func101, Tryd.ntmps101
        go_wp2
        go_ret
        exact ⟨by rw [H.out]; rfl, below_one _ _⟩
      cases hu : utf8B t with
      | false =>
        have e : cellE ⟨2, 0, t⟩ = 20 := by simp [cellE, hu]
        have H := Lib.hid e
        clear e
        go_enter Tryd.func101, Tryd.ntmps101
        go_wp2_with fail
        refine (spelled_any t _ (by omega) (Utf8Tabs_below hT (below_one _ _))).mono ?_
        rintro e w' ⟨rfl, hb⟩
        rw [hu]
        have hc0 := cell_below hb (a := ⟨w.heap.size, 0, none⟩) (v := .int .i64 2) (by go_cell)
        go_wp2
        go_ret
        exact ⟨by rw [H.out]; rfl, below_then (below_one _ _) hb⟩
      | true =>
        have e : cellE ⟨2, 0, t⟩ = 0 := by simp [cellE, hu]; omega
        have H := Lib.hid e
        clear e
        go_enter Tryd.func101, Tryd.ntmps101
        go_wp2_with fail
        refine (spelled_any t _ (by omega) (Utf8Tabs_below hT (below_one _ _))).mono ?_
        rintro e w' ⟨rfl, hb⟩
        rw [hu]
        have hc0 := cell_below hb (a := ⟨w.heap.size, 0, none⟩) (v := .int .i64 2) (by go_cell)
        go_wp2
        go_ret
        exact ⟨by rw [H.out]; rfl, below_then (below_one _ _) hb⟩
    · skip
      have e : cellE ⟨2, n, t⟩ = 3 := by simp [cellE, hn]
      have H := Lib.hid e
      clear e
      go_enter Tryd.func101, Tryd.ntmps101
      go_wp2
      go_ret
      exact ⟨by rw [H.out]; rfl, below_one _ _⟩
  · clear hlo hhi
    by_cases ht : t.size = 0
    · have hx := text_nil ht
      by_cases h1 : n < 1
      · skip
        have e : cellE ⟨3, n, t⟩ = 1 := by simp [cellE, ht, h1]
        have H := Lib.hid e
        clear e
        go_enter Tryd.func101, Tryd.ntmps101
        go_wp2
        go_ret
        exact ⟨by rw [H.out]; rfl, below_one _ _⟩
      by_cases h2 : 281474976710656 < n
      · skip
        have e : cellE ⟨3, n, t⟩ = 1 := by simp [cellE, ht, h2]
        have H := Lib.hid e
        clear e
        go_enter Tryd.func101, Tryd.ntmps101
        go_wp2
        go_ret
        exact ⟨by rw [H.out]; rfl, below_one _ _⟩
      · skip
        have e : cellE ⟨3, n, t⟩ = 0 := by simp [cellE, ht, h1, h2]
        have H := Lib.hid e
        clear e
        go_enter Tryd.func101, Tryd.ntmps101
        go_wp2
        go_ret
        exact ⟨by rw [H.out]; rfl, below_one _ _⟩
    · have hx := text_some ht
      have e : cellE ⟨3, n, t⟩ = 3 := by simp [cellE, ht]
      have H := Lib.hid e
      clear e
      go_enter Tryd.func101, Tryd.ntmps101
      go_wp2
      go_ret
      exact ⟨by rw [H.out]; rfl, below_one _ _⟩
  · clear hlo hhi
    by_cases ht : t.size = 0
    · have hx := text_nil ht
      by_cases h1 : n < 1
      · skip
        have e : cellE ⟨4, n, t⟩ = 1 := by simp [cellE, ht, h1]
        have H := Lib.hid e
        clear e
        go_enter Tryd.func101, Tryd.ntmps101
        go_wp2
        go_ret
        exact ⟨by rw [H.out]; rfl, below_one _ _⟩
      by_cases h2 : 1099511627776 < n
      · skip
        have e : cellE ⟨4, n, t⟩ = 1 := by simp [cellE, ht, h2]
        have H := Lib.hid e
        clear e
        go_enter Tryd.func101, Tryd.ntmps101
        go_wp2
        go_ret
        exact ⟨by rw [H.out]; rfl, below_one _ _⟩
      · skip
        have e : cellE ⟨4, n, t⟩ = 0 := by simp [cellE, ht, h1, h2]
        have H := Lib.hid e
        clear e
        go_enter Tryd.func101, Tryd.ntmps101
        go_wp2
        go_ret
        exact ⟨by rw [H.out]; rfl, below_one _ _⟩
    · have hx := text_some ht
      have e : cellE ⟨4, n, t⟩ = 3 := by simp [cellE, ht]
      have H := Lib.hid e
      clear e
      go_enter Tryd.func101, Tryd.ntmps101
      go_wp2
      go_ret
      exact ⟨by rw [H.out]; rfl, below_one _ _⟩
  · clear hlo hhi
    by_cases ht : t.size = 0
    · have hx := text_nil ht
      by_cases h1 : n < 0
      · skip
        have e : cellE ⟨5, n, t⟩ = 1 := by simp [cellE, ht, h1]
        have H := Lib.hid e
        clear e
        go_enter Tryd.func101, Tryd.ntmps101
        go_wp2
        go_ret
        exact ⟨by rw [H.out]; rfl, below_one _ _⟩
      by_cases h2 : 255 < n
      · skip
        have e : cellE ⟨5, n, t⟩ = 1 := by simp [cellE, ht, h2]
        have H := Lib.hid e
        clear e
        go_enter Tryd.func101, Tryd.ntmps101
        go_wp2
        go_ret
        exact ⟨by rw [H.out]; rfl, below_one _ _⟩
      · skip
        have e : cellE ⟨5, n, t⟩ = 0 := by simp [cellE, ht, h1, h2]
        have H := Lib.hid e
        clear e
        go_enter Tryd.func101, Tryd.ntmps101
        go_wp2
        go_ret
        exact ⟨by rw [H.out]; rfl, below_one _ _⟩
    · have hx := text_some ht
      have e : cellE ⟨5, n, t⟩ = 3 := by simp [cellE, ht]
      have H := Lib.hid e
      clear e
      go_enter Tryd.func101, Tryd.ntmps101
      go_wp2
      go_ret
      exact ⟨by rw [H.out]; rfl, below_one _ _⟩
  · clear hlo hhi
    by_cases ht : t.size = 0
    · have hx := text_nil ht
      by_cases hn : n = 0
      · skip
        have e : cellE ⟨6, n, t⟩ = 0 := by simp [cellE, ht, hn]
        have H := Lib.hid e
        clear e
        go_enter Tryd.func101, Tryd.ntmps101
        go_wp2
        go_ret
        exact ⟨by rw [H.out]; rfl, below_one _ _⟩
      · skip
        have e : cellE ⟨6, n, t⟩ = 3 := by simp [cellE, ht, hn]
        have H := Lib.hid e
        clear e
        go_enter Tryd.func101, Tryd.ntmps101
        go_wp2
        go_ret
        exact ⟨by rw [H.out]; rfl, below_one _ _⟩
    · have hx := text_some ht
      have e : cellE ⟨6, n, t⟩ = 3 := by simp [cellE, ht]
      have H := Lib.hid e
      clear e
      go_enter Tryd.func101, Tryd.ntmps101
      go_wp2
      go_ret
      exact ⟨by rw [H.out]; rfl, below_one _ _⟩
  · clear hlo hhi
    by_cases ht : t.size = 0
    · have hx := text_nil ht
      by_cases hn : n = 0
      · skip
        have e : cellE ⟨7, n, t⟩ = 0 := by simp [cellE, ht, hn]
        have H := Lib.hid e
        clear e
        go_enter Tryd.func101, Tryd.ntmps101
        go_wp2
        go_ret
        exact ⟨by rw [H.out]; rfl, below_one _ _⟩
      · skip
        have e : cellE ⟨7, n, t⟩ = 3 := by simp [cellE, ht, hn]
        have H := Lib.hid e
        clear e
        go_enter Tryd.func101, Tryd.ntmps101
        go_wp2
        go_ret
        exact ⟨by rw [H.out]; rfl, below_one _ _⟩
    · have hx := text_some ht
      have e : cellE ⟨7, n, t⟩ = 3 := by simp [cellE, ht]
      have H := Lib.hid e
      clear e
      go_enter Tryd.func101, Tryd.ntmps101
      go_wp2
      go_ret
      exact ⟨by rw [H.out]; rfl, below_one _ _⟩
  · clear hlo hhi
    by_cases hn : n = 0
    · subst hn
      by_cases hl : 1024 < t.size
      · skip
        have e : cellE ⟨8, 0, t⟩ = 4 := by simp [cellE, hl]
        have H := Lib.hid e
        clear e
        go_enter Tryd.func101, Tryd.ntmps101
        go_wp2
        go_ret
        exact ⟨by rw [H.out]; rfl, below_one _ _⟩
      · skip
        have e : cellE ⟨8, 0, t⟩ = 0 := by simp [cellE, hl]
        have H := Lib.hid e
        clear e
        go_enter Tryd.func101, Tryd.ntmps101
        go_wp2
        go_ret
        exact ⟨by rw [H.out]; rfl, below_one _ _⟩
    · skip
      have e : cellE ⟨8, n, t⟩ = 3 := by simp [cellE, hn]
      have H := Lib.hid e
      clear e
      go_enter Tryd.func101, Tryd.ntmps101
      go_wp2
      go_ret
      exact ⟨by rw [H.out]; rfl, below_one _ _⟩
end Go.Proofs.YthgnihckeckaiaaDoor.Tm
