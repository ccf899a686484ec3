/- Words of the reference: kinds; the law's reach. -/
import Derived.Test.YthgnihckeckaiaaDoorSwH
import Derived.Test.YthgnihckeckaiaaDoorArW
namespace Go.Proofs.YthgnihckeckaiaaDoor.Tm
open Go.RowKit Go.Shelf
set_option linter.unusedVariables false
set_option linter.unusedSimpArgs false

theorem rheaded_any (a : Int) (w : World) : Calls Tryd.prog 129 #[.int .i64 a] w fun e w' => e = .returned (.bool (hdW a)) ∧ w' = w := by
  by_cases h1 : a = 1 ∨ a = 2 ∨ a = 3 ∨ a = 4 ∨ a = 5 ∨ a = 8
  · rcases h1 with rfl | rfl | rfl | rfl | rfl | rfl
    all_goals
      go_enter Tryd.func129, Tryd.ntmps129
      go_wp2
      go_ret
      exact ⟨rfl, rfl⟩
  · have e1 : (a == 1) = false := by rw [beq_eq_false_iff_ne]; omega
    have e2 : (a == 2) = false := by rw [beq_eq_false_iff_ne]; omega
    have e3 : (a == 3) = false := by rw [beq_eq_false_iff_ne]; omega
    have e4 : (a == 4) = false := by rw [beq_eq_false_iff_ne]; omega
    have e5 : (a == 5) = false := by rw [beq_eq_false_iff_ne]; omega
    have e8 : (a == 8) = false := by rw [beq_eq_false_iff_ne]; omega
    have H := Lib.hid (show hdW a = false by simp [hdW, e1, e2, e3, e4, e5, e8])
    clear h1
    go_enter Tryd.func129, Tryd.ntmps129
    go_wp2
    go_ret
    exact ⟨by rw [H.out]; rfl, rfl⟩
theorem rkind_any (x : Int) (w : World) (h0 : 0 ≤ x) (h1 : x < 18446744073709551616) : Calls Tryd.prog 97 #[.int .u64 x] w fun e w' => e = .returned (.int .i64 (kdW x)) ∧ w' = w := by
  have hb := and15 x h0 h1
  by_cases c1 : x % 16 = 1
  · have H := Lib.hid (show kdW x = 1 by simp [kdW, c1])
    rw [c1] at hb
    clear c1
    go_enter Tryd.func97, Tryd.ntmps97
    go_wp2
    go_ret
    exact ⟨by rw [H.out]; rfl, rfl⟩
  by_cases c2 : x % 16 = 2
  · rw [c2] at hb
    by_cases d : x / 16 = 0
    · have H := Lib.hid (show kdW x = 2 by simp [kdW, c2, d])
      have hd : (x / 16 == 0) = true := by rw [d]; rfl
      clear c1 c2 d
      go_enter Tryd.func97, Tryd.ntmps97
      go_wp2
      go_ret
      exact ⟨by rw [H.out]; rfl, rfl⟩
    · have H := Lib.hid (show kdW x = 0 by simp [kdW, c2, d])
      have hd : (x / 16 == 0) = false := by rw [beq_eq_false_iff_ne]; exact d
      clear c1 c2 d
      go_enter Tryd.func97, Tryd.ntmps97
      go_wp2
      go_ret
      exact ⟨by rw [H.out]; rfl, rfl⟩
  by_cases c3 : x % 16 = 3
  · rw [c3] at hb
    by_cases d : x / 16 < 262144
    · have H := Lib.hid (show kdW x = 3 by simp [kdW, c3, d])
      have hd : decide (x / 16 < 262144) = true := decide_eq_true d
      clear c1 c2 c3 d
      go_enter Tryd.func97, Tryd.ntmps97
      go_wp2
      go_ret
      exact ⟨by rw [H.out]; rfl, rfl⟩
    · have H := Lib.hid (show kdW x = 0 by simp [kdW, c3, d])
      have hd : decide (x / 16 < 262144) = false := decide_eq_false d
      clear c1 c2 c3 d
      go_enter Tryd.func97, Tryd.ntmps97
      go_wp2
      go_ret
      exact ⟨by rw [H.out]; rfl, rfl⟩
  by_cases c4 : x % 16 = 4
  · rw [c4] at hb
    by_cases d : x / 16 < 262144
    · have H := Lib.hid (show kdW x = 4 by simp [kdW, c4, d])
      have hd : decide (x / 16 < 262144) = true := decide_eq_true d
      clear c1 c2 c4 d
      go_enter Tryd.func97, Tryd.ntmps97
      go_wp2
      go_ret
      exact ⟨by rw [H.out]; rfl, rfl⟩
    · have H := Lib.hid (show kdW x = 0 by simp [kdW, c4, d])
      have hd : decide (x / 16 < 262144) = false := decide_eq_false d
      clear c1 c2 c4 d
      go_enter Tryd.func97, Tryd.ntmps97
      go_wp2
      go_ret
      exact ⟨by rw [H.out]; rfl, rfl⟩
  by_cases c5 : x % 16 = 15
  · rw [c5] at hb
    have hb2 := and15 (x / 16) (by omega) (by omega)
    have hw := w64_id (x / 16 % 16) (by omega) (by omega)
    have hx2 : x / 16 / 16 = x / 256 := by omega
    have H := Lib.hid (show kdW x = if hdW (x / 16 % 16) = true ∧ x / 256 ≤ 262144 then 5 else 0 by simp [kdW, c5])
    clear c1 c2 c3 c4 c5
    go_enter Tryd.func97, Tryd.ntmps97
    go_wp2_with fail
    refine (rheaded_any _ _).mono ?_
    rintro e w' ⟨rfl, rfl⟩
    by_cases d1 : hdW (x / 16 % 16) = true
    · by_cases d2 : x / 256 ≤ 262144
      · have hd2 : decide (x / 256 ≤ 262144) = true := decide_eq_true d2
        rw [if_pos ⟨d1, d2⟩] at H
        go_wp2
        go_ret
        exact ⟨by rw [H.out]; rfl, rfl⟩
      · have hd2 : decide (x / 256 ≤ 262144) = false := decide_eq_false d2
        rw [if_neg (fun h => d2 h.2)] at H
        go_wp2
        go_ret
        exact ⟨by rw [H.out]; rfl, rfl⟩
    · have d1' : hdW (x / 16 % 16) = false := by simpa using d1
      rw [if_neg (fun h => d1 h.1)] at H
      clear d1
      go_wp2
      go_ret
      exact ⟨by rw [H.out]; rfl, rfl⟩
  have H := Lib.hid (show kdW x = 0 by simp [kdW, c1, c2, c3, c4, c5])
  have hw := w64_id (x % 16) (by omega) (by omega)
  have e1 : (x % 16 == 1) = false := by rw [beq_eq_false_iff_ne]; exact c1
  have e2 : (x % 16 == 2) = false := by rw [beq_eq_false_iff_ne]; exact c2
  have e3 : (x % 16 == 3) = false := by rw [beq_eq_false_iff_ne]; exact c3
  have e4 : (x % 16 == 4) = false := by rw [beq_eq_false_iff_ne]; exact c4
  have e5 : (x % 16 == 15) = false := by rw [beq_eq_false_iff_ne]; exact c5
  clear c1 c2 c3 c4 c5
  go_enter Tryd.func97, Tryd.ntmps97
  go_wp2
  go_ret
  exact ⟨by rw [H.out]; rfl, rfl⟩
end Go.Proofs.YthgnihckeckaiaaDoor.Tm
