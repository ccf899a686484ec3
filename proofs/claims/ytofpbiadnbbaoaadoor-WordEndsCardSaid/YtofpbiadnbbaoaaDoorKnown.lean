/- Layer 1's 'known': fixed calls. -/
import Derived.Test.YtofpbiadnbbaoaaDoorRows
import Derived.Test.YtofpbiadnbbaoaaDoorReads
import Derived.Laws.BitsLemmas
namespace Go.Proofs.YtofpbiadnbbaoaaDoor.Tm
open Go.RowKit
set_option linter.unusedVariables false
set_option linter.unusedSimpArgs false

theorem u64_wraps (n : Int) (h₀ : 0 ≤ n) (h₁ : n < 2 ^ 64) : IntKind.u64.wrap n = n := by
  simp [IntKind.wrap, IntKind.bits, IntKind.signed]; omega
theorem u64_and15 (x : Int) (h₀ : 0 ≤ x) (h₁ : x < 18446744073709551616) : Go.bits .and .u64 x 15 = x % 16 :=
  bits_mask .u64 64 (by decide) u64_wraps 4 (by decide) x h₀ h₁
theorem u64_or4 (x y : Int) (hx₀ : 0 ≤ x) (hx : x % 16 = 0) (hx₁ : x < 18446744073709551616) (h₀ : 0 ≤ y) (h₁ : y < 16) : Go.bits .or .u64 x y = x + y :=
  bits_join .u64 64 (by decide) u64_wraps 4 x y hx₀ hx hx₁ h₀ h₁ (by omega)
theorem u64_or8 (x y : Int) (hx₀ : 0 ≤ x) (hx : x % 256 = 0) (hx₁ : x < 18446744073709551616) (h₀ : 0 ≤ y) (h₁ : y < 256) : Go.bits .or .u64 x y = x + y :=
  bits_join .u64 64 (by decide) u64_wraps 8 x y hx₀ hx hx₁ h₀ h₁ (by omega)
theorem wrap_u64 (n : Int) : IntKind.u64.wrap n = n % 18446744073709551616 := by simp [IntKind.wrap, IntKind.bits, IntKind.signed]
theorem w64_id (n : Int) (h₀ : -9223372036854775808 ≤ n) (h₁ : n < 9223372036854775808) : wrap64 n = n := by unfold wrap64; omega
theorem wf_u64 {a : Int} (h : (Lit.int .u64 a).wf = true) : 0 ≤ a ∧ a < 18446744073709551616 := by
  have h2 := h; simp [Lit.wf, IntKind.min, IntKind.max] at h2; simp [IntKind.signed, IntKind.bits] at h2; omega
theorem wf_i64 {a : Int} (h : (Lit.int .i64 a).wf = true) : -9223372036854775808 ≤ a ∧ a < 9223372036854775808 := by
  have h2 := h; simp [Lit.wf, IntKind.min, IntKind.max] at h2; simp [IntKind.signed, IntKind.bits] at h2; omega
theorem b81 : Go.bits .and .u64 81 15 = 1 := u64_and15 81 (by omega) (by omega)
theorem b2 : Go.bits .and .u64 2 15 = 2 := u64_and15 2 (by omega) (by omega)
theorem b80 : Go.bits .or .u64 80 1 = 81 := u64_or4 80 1 (by omega) (by omega) (by omega) (by omega) (by omega)
theorem w1 : wrap64 1 = 1 := w64_id 1 (by omega) (by omega)
theorem w2 : wrap64 2 = 2 := w64_id 2 (by omega) (by omega)
theorem ofInt5 (w : World) : Calls Tryd.prog 18 #[.int .i64 5] w fun e w' => e = .returned (.tuple #[.int .u64 81, .int .i64 0]) ∧ w = w' := by
  have h1 := b80
  go_enter Tryd.func18, Tryd.ntmps18
  go_wp2
  go_ret2
  exact ⟨by first | rfl | (simp; done), rfl⟩
theorem kind81 (w : World) : Calls Tryd.prog 20 #[.int .u64 81] w fun e w' => e = .returned (.int .i64 1) ∧ w = w' := by
  have h1 := b81
  have h2 := b2
  have h3 := w1
  have h4 := w2
  go_enter Tryd.func20, Tryd.ntmps20
  go_wp2
  go_ret
  exact ⟨by first | rfl | (simp; done), rfl⟩
theorem kind2 (w : World) : Calls Tryd.prog 20 #[.int .u64 2] w fun e w' => e = .returned (.int .i64 2) ∧ w = w' := by
  have h1 := b81
  have h2 := b2
  have h3 := w1
  have h4 := w2
  go_enter Tryd.func20, Tryd.ntmps20
  go_wp2
  go_ret
  exact ⟨by first | rfl | (simp; done), rfl⟩
theorem value81 (w : World) : Calls Tryd.prog 19 #[.int .u64 81] w fun e w' => e = .returned (.tuple #[.int .i64 5, .int .i64 0]) ∧ w = w' := by
  go_enter Tryd.func19, Tryd.ntmps19
  go_wp2_with fail
  refine (kind81 _).mono ?_
  rintro e w' ⟨rfl, rfl⟩
  go_wp2
  go_ret2
  exact ⟨by first | rfl | (simp; done), rfl⟩
theorem known_any (w : World) : Calls Tryd.prog 7 #[] w fun e w' => e = .returned (.bool true) ∧ w = w' := by
  go_enter Tryd.func7, Tryd.ntmps7
  go_wp2_with fail
  refine (ofInt5 _).mono ?_
  rintro e w' ⟨rfl, rfl⟩
  go_wp2_with fail
  refine (value81 _).mono ?_
  rintro e w' ⟨rfl, rfl⟩
  go_wp2_with fail
  refine (kind2 _).mono ?_
  rintro e w' ⟨rfl, rfl⟩
  go_wp2
  go_ret
  exact ⟨by first | rfl | (simp; done), rfl⟩
end Go.Proofs.YtofpbiadnbbaoaaDoor.Tm
