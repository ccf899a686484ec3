/- Words: what kind, of numbers, of places, back. -/
import Derived.Test.YthgnihckeckaiaaDoorArP
import Derived.Handy
import Derived.Laws.BitsLemmas
namespace Go.Proofs.YthgnihckeckaiaaDoor.Tm
open Go.RowKit
set_option linter.unusedVariables false
set_option linter.unusedSimpArgs false

theorem u64_wraps (n : Int) (h₀ : 0 ≤ n) (h₁ : n < 2 ^ 64) : IntKind.u64.wrap n = n := by
  simp [IntKind.wrap, IntKind.bits, IntKind.signed]; omega
theorem and15 (x : Int) (h₀ : 0 ≤ x) (h₁ : x < 18446744073709551616) : Go.bits .and .u64 x 15 = x % 16 :=
  bits_mask .u64 64 (by decide) u64_wraps 4 (by decide) x h₀ h₁
theorem or4 (x y : Int) (hx₀ : 0 ≤ x) (hx : x % 16 = 0) (hx₁ : x < 18446744073709551616) (h₀ : 0 ≤ y) (h₁ : y < 16) : Go.bits .or .u64 x y = x + y :=
  bits_join .u64 64 (by decide) u64_wraps 4 x y hx₀ hx hx₁ h₀ h₁ (by omega)
theorem wrap_u64 (n : Int) : IntKind.u64.wrap n = n % 18446744073709551616 := by simp [IntKind.wrap, IntKind.bits, IntKind.signed]
theorem w64_id (n : Int) (h₀ : -9223372036854775808 ≤ n) (h₁ : n < 9223372036854775808) : wrap64 n = n := by unfold wrap64; omega
theorem wheaded_any (a : Int) (w : World) : Calls Tryd.prog 124 #[.int .i64 a] w fun e w' => e = .returned (.bool (hdW a)) ∧ w' = w := by
  by_cases h1 : a = 1 ∨ a = 2 ∨ a = 3 ∨ a = 4 ∨ a = 5 ∨ a = 8
  · rcases h1 with rfl | rfl | rfl | rfl | rfl | rfl
    all_goals
      go_enter Tryd.func124, Tryd.ntmps124
      go_wp2
      go_ret
      exact ⟨rfl, rfl⟩
  · have e1 : (a == 1) = false := by rw [beq_eq_false_iff_ne]; omega
    have e2 : (a == 2) = false := by rw [beq_eq_false_iff_ne]; omega
    have e3 : (a == 3) = false := by rw [beq_eq_false_iff_ne]; omega
    have e4 : (a == 4) = false := by rw [beq_eq_false_iff_ne]; omega
    have e5 : (a == 5) = false := by rw [beq_eq_false_iff_ne]; omega
    have e8 : (a == 8) = false := by rw [beq_eq_false_iff_ne]; omega
    have H := Lib.hid (show hdW a = false by simp [hdW, e1, e2, e3, e4, e5, e8])
    clear h1
    go_enter Tryd.func124, Tryd.ntmps124
    go_wp2
    go_ret
    exact ⟨by rw [H.out]; rfl, rfl⟩
theorem wkind_any (x : Int) (w : World) (h0 : 0 ≤ x) (h1 : x < 18446744073709551616) : Calls Tryd.prog 79 #[.int .u64 x] w fun e w' => e = .returned (.int .i64 (kdW x)) ∧ w' = w := by
  have hb := and15 x h0 h1
  by_cases c1 : x % 16 = 1
  · have H := Lib.hid (show kdW x = 1 by simp [kdW, c1])
    rw [c1] at hb
    clear c1
    go_enter Tryd.func79, Tryd.ntmps79
    go_wp2
    go_ret
    exact ⟨by rw [H.out]; rfl, rfl⟩
  by_cases c2 : x % 16 = 2
  · rw [c2] at hb
    by_cases d : x / 16 = 0
    · have H := Lib.hid (show kdW x = 2 by simp [kdW, c2, d])
      have hd : (x / 16 == 0) = true := by rw [d]; rfl
      clear c1 c2 d
      go_enter Tryd.func79, Tryd.ntmps79
      go_wp2
      go_ret
      exact ⟨by rw [H.out]; rfl, rfl⟩
    · have H := Lib.hid (show kdW x = 0 by simp [kdW, c2, d])
      have hd : (x / 16 == 0) = false := by rw [beq_eq_false_iff_ne]; exact d
      clear c1 c2 d
      go_enter Tryd.func79, Tryd.ntmps79
      go_wp2
      go_ret
      exact ⟨by rw [H.out]; rfl, rfl⟩
  by_cases c3 : x % 16 = 3
  · rw [c3] at hb
    by_cases d : x / 16 < 262144
    · have H := Lib.hid (show kdW x = 3 by simp [kdW, c3, d])
      have hd : decide (x / 16 < 262144) = true := decide_eq_true d
      clear c1 c2 c3 d
      go_enter Tryd.func79, Tryd.ntmps79
      go_wp2
      go_ret
      exact ⟨by rw [H.out]; rfl, rfl⟩
    · have H := Lib.hid (show kdW x = 0 by simp [kdW, c3, d])
      have hd : decide (x / 16 < 262144) = false := decide_eq_false d
      clear c1 c2 c3 d
      go_enter Tryd.func79, Tryd.ntmps79
      go_wp2
      go_ret
      exact ⟨by rw [H.out]; rfl, rfl⟩
  by_cases c4 : x % 16 = 4
  · rw [c4] at hb
    by_cases d : x / 16 < 262144
    · have H := Lib.hid (show kdW x = 4 by simp [kdW, c4, d])
      have hd : decide (x / 16 < 262144) = true := decide_eq_true d
      clear c1 c2 c4 d
      go_enter Tryd.func79, Tryd.ntmps79
      go_wp2
      go_ret
      exact ⟨by rw [H.out]; rfl, rfl⟩
    · have H := Lib.hid (show kdW x = 0 by simp [kdW, c4, d])
      have hd : decide (x / 16 < 262144) = false := decide_eq_false d
      clear c1 c2 c4 d
      go_enter Tryd.func79, Tryd.ntmps79
      go_wp2
      go_ret
      exact ⟨by rw [H.out]; rfl, rfl⟩
  by_cases c5 : x % 16 = 15
  · rw [c5] at hb
    have hb2 := and15 (x / 16) (by omega) (by omega)
    have hw := w64_id (x / 16 % 16) (by omega) (by omega)
    have hx2 : x / 16 / 16 = x / 256 := by omega
    have H := Lib.hid (show kdW x = if hdW (x / 16 % 16) = true ∧ x / 256 ≤ 262144 then 5 else 0 by simp [kdW, c5])
    clear c1 c2 c3 c4 c5
    go_enter Tryd.func79, Tryd.ntmps79
    go_wp2_with fail
    refine (wheaded_any _ _).mono ?_
    rintro e w' ⟨rfl, rfl⟩
    by_cases d1 : hdW (x / 16 % 16) = true
    · by_cases d2 : x / 256 ≤ 262144
      · have hd2 : decide (x / 256 ≤ 262144) = true := decide_eq_true d2
        rw [if_pos ⟨d1, d2⟩] at H
        go_wp2
        go_ret
        exact ⟨by rw [H.out]; rfl, rfl⟩
      · have hd2 : decide (x / 256 ≤ 262144) = false := decide_eq_false d2
        rw [if_neg (fun h => d2 h.2)] at H
        go_wp2
        go_ret
        exact ⟨by rw [H.out]; rfl, rfl⟩
    · have d1' : hdW (x / 16 % 16) = false := by simpa using d1
      rw [if_neg (fun h => d1 h.1)] at H
      clear d1
      go_wp2
      go_ret
      exact ⟨by rw [H.out]; rfl, rfl⟩
  have H := Lib.hid (show kdW x = 0 by simp [kdW, c1, c2, c3, c4, c5])
  have hw := w64_id (x % 16) (by omega) (by omega)
  have e1 : (x % 16 == 1) = false := by rw [beq_eq_false_iff_ne]; exact c1
  have e2 : (x % 16 == 2) = false := by rw [beq_eq_false_iff_ne]; exact c2
  have e3 : (x % 16 == 3) = false := by rw [beq_eq_false_iff_ne]; exact c3
  have e4 : (x % 16 == 4) = false := by rw [beq_eq_false_iff_ne]; exact c4
  have e5 : (x % 16 == 15) = false := by rw [beq_eq_false_iff_ne]; exact c5
  clear c1 c2 c3 c4 c5
  go_enter Tryd.func79, Tryd.ntmps79
  go_wp2
  go_ret
  exact ⟨by rw [H.out]; rfl, rfl⟩
/-- The place that a pointer's word names. -/
theorem wat_any (x : Int) (w : World) (h0 : 0 ≤ x) (h1 : x < 18446744073709551616) (hk : kdW x = 3 ∨ kdW x = 4) : Calls Tryd.prog 138 #[.int .u64 x] w fun e w' => e = .returned (.tuple #[.int .i64 (x / 16), .int .i64 0]) ∧ w' = w := by
  have hw := w64_id (x / 16) (by omega) (by omega)
  rcases hk with hk | hk
  all_goals
    go_enter Tryd.func138, Tryd.ntmps138
    go_wp2_with fail
    refine (wkind_any x _ h0 h1).mono ?_
    rintro e w' ⟨rfl, rfl⟩
    rw [hk]
    go_wp2
    go_ret2
    exact ⟨rfl, rfl⟩
theorem wofint_any (n : Int) (w : World) (h0 : -9223372036854775808 ≤ n) (h1 : n < 9223372036854775808) : Calls Tryd.prog 103 #[.int .i64 n] w fun e w' => e = .returned (.tuple #[.int .u64 (if smallI n then intW n else 0), .int .i64 (if smallI n then 0 else 7)]) ∧ w' = w := by
  by_cases hs : smallI n
  · obtain ⟨g0, g1⟩ := hs
    simp only [if_pos (show smallI n from ⟨g0, g1⟩)]
    have e0 : decide (n < -576460752303423488) = false := decide_eq_false (by omega)
    have e1 : decide (576460752303423488 ≤ n) = false := decide_eq_false (by omega)
    have ew : IntKind.u64.wrap (n * 16) = n % 1152921504606846976 * 16 := by rw [wrap_u64]; omega
    have eo : Go.bits .or .u64 (n % 1152921504606846976 * 16) 1 = intW n := or4 _ _ (by omega) (by omega) (by omega) (by omega) (by omega)
    go_enter Tryd.func103, Tryd.ntmps103
    go_wp2
    go_ret2
    exact ⟨rfl, rfl⟩
  · simp only [if_neg hs]
    rcases show n < -576460752303423488 ∨ ¬ n < -576460752303423488 ∧ 576460752303423488 ≤ n by unfold smallI at hs; omega with h | ⟨h, h'⟩
    · have e0 : decide (n < -576460752303423488) = true := decide_eq_true h
      clear hs h
      go_enter Tryd.func103, Tryd.ntmps103
      go_wp2
      go_ret2
      exact ⟨rfl, rfl⟩
    · have e0 : decide (n < -576460752303423488) = false := decide_eq_false h
      have e1 : decide (576460752303423488 ≤ n) = true := decide_eq_true h'
      clear hs h h'
      go_enter Tryd.func103, Tryd.ntmps103
      go_wp2
      go_ret2
      exact ⟨rfl, rfl⟩
theorem wplaced_any (t p : Int) (w : World) (h0 : 0 ≤ p) (h1 : p < 262144) (ht : t = 3 ∨ t = 4) : Calls Tryd.prog 132 #[.int .i64 t, .int .i64 p] w fun e w' => e = .returned (.tuple #[.int .u64 (p * 16 + t), .int .i64 0]) ∧ w' = w := by
  have e0 : decide (p < 0) = false := decide_eq_false (by omega)
  have e1 : decide (262144 ≤ p) = false := decide_eq_false (by omega)
  have ew : IntKind.u64.wrap p = p := by rw [wrap_u64]; omega
  have ew2 : IntKind.u64.wrap (p * 16) = p * 16 := by rw [wrap_u64]; omega
  rcases ht with rfl | rfl
  · have eo : Go.bits .or .u64 (p * 16) 3 = p * 16 + 3 := or4 _ _ (by omega) (by omega) (by omega) (by omega) (by omega)
    go_enter Tryd.func132, Tryd.ntmps132
    go_wp2
    go_ret2
    exact ⟨rfl, rfl⟩
  · have eo : Go.bits .or .u64 (p * 16) 4 = p * 16 + 4 := or4 _ _ (by omega) (by omega) (by omega) (by omega) (by omega)
    go_enter Tryd.func132, Tryd.ntmps132
    go_wp2
    go_ret2
    exact ⟨rfl, rfl⟩
theorem wofbox_any (p : Int) (w : World) (h0 : 0 ≤ p) (h1 : p < 262144) : Calls Tryd.prog 104 #[.int .i64 p] w fun e w' => e = .returned (.tuple #[.int .u64 (p * 16 + 4), .int .i64 0]) ∧ w' = w := by
  go_enter Tryd.func104, Tryd.ntmps104
  go_wp2_with fail
  refine (wplaced_any 4 p _ h0 h1 (.inr rfl)).mono ?_
  rintro e w' ⟨rfl, rfl⟩
  go_wp2
  go_ret2
  exact ⟨rfl, rfl⟩
theorem wofcons_any (p : Int) (w : World) (h0 : 0 ≤ p) (h1 : p < 262144) : Calls Tryd.prog 105 #[.int .i64 p] w fun e w' => e = .returned (.tuple #[.int .u64 (p * 16 + 3), .int .i64 0]) ∧ w' = w := by
  go_enter Tryd.func105, Tryd.ntmps105
  go_wp2_with fail
  refine (wplaced_any 3 p _ h0 h1 (.inl rfl)).mono ?_
  rintro e w' ⟨rfl, rfl⟩
  go_wp2
  go_ret2
  exact ⟨rfl, rfl⟩
theorem wvalue_any (x : Int) (w : World) (h0 : 0 ≤ x) (h1 : x < 18446744073709551616) (hk : kdW x = 1) : Calls Tryd.prog 123 #[.int .u64 x] w fun e w' => e = .returned (.tuple #[.int .i64 (valW x), .int .i64 0]) ∧ w' = w := by
  have e : wrap64 x / 16 = valW x := by unfold wrap64 valW; omega
  go_enter Tryd.func123, Tryd.ntmps123
  go_wp2_with fail
  refine (wkind_any x _ h0 h1).mono ?_
  rintro e w' ⟨rfl, rfl⟩
  rw [hk]
  go_wp2
  go_ret2
  exact ⟨rfl, rfl⟩
end Go.Proofs.YthgnihckeckaiaaDoor.Tm
