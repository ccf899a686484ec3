/- Proved: for any three whole numbers, the program's OfInt, OfCons, OfBox and OfHead answer as the document's do. No conditions. -/
import Derived.Test.YtofpbiadnbbaoaaPWordMakesx2
import Derived.Laws.BitsLemmas
namespace Go.Proofs.Ytofpbiadnbbaoaa.Pure
open Go.RowKit Go.Proofs.Ytofpbiadnbbaoaa.PWordMakes Go.Proofs.YtofpbiadnbbaoaaW.PrintWords Go.Proofs.YtofpbiadnbbaoaaW.PrintLast
set_option linter.unusedVariables false
namespace WWordMakes
theorem u64_wraps (n : Int) (h₀ : 0 ≤ n) (h₁ : n < 2 ^ 64) : IntKind.u64.wrap n = n := by
  simp [IntKind.wrap, IntKind.bits, IntKind.signed]; omega
theorem u64_and15 (x : Int) (h₀ : 0 ≤ x) (h₁ : x < 18446744073709551616) : Go.bits .and .u64 x 15 = x % 16 :=
  bits_mask .u64 64 (by decide) u64_wraps 4 (by decide) x h₀ h₁
theorem u64_or4 (x y : Int) (hx₀ : 0 ≤ x) (hx : x % 16 = 0) (hx₁ : x < 18446744073709551616) (h₀ : 0 ≤ y) (h₁ : y < 16) : Go.bits .or .u64 x y = x + y :=
  bits_join .u64 64 (by decide) u64_wraps 4 x y hx₀ hx hx₁ h₀ h₁ (by omega)
theorem u64_or8 (x y : Int) (hx₀ : 0 ≤ x) (hx : x % 256 = 0) (hx₁ : x < 18446744073709551616) (h₀ : 0 ≤ y) (h₁ : y < 256) : Go.bits .or .u64 x y = x + y :=
  bits_join .u64 64 (by decide) u64_wraps 8 x y hx₀ hx hx₁ h₀ h₁ (by omega)
theorem wrap_u64 (n : Int) : IntKind.u64.wrap n = n % 18446744073709551616 := by simp [IntKind.wrap, IntKind.bits, IntKind.signed]
theorem w64_id (n : Int) (h₀ : -9223372036854775808 ≤ n) (h₁ : n < 9223372036854775808) : wrap64 n = n := by unfold wrap64; omega
theorem wf_u64 {a : Int} (h : (Lit.int .u64 a).wf = true) : 0 ≤ a ∧ a < 18446744073709551616 := by
  have h2 := h; simp [Lit.wf, IntKind.min, IntKind.max] at h2; simp [IntKind.signed, IntKind.bits] at h2; omega
theorem wf_i64 {a : Int} (h : (Lit.int .i64 a).wf = true) : -9223372036854775808 ≤ a ∧ a < 9223372036854775808 := by
  have h2 := h; simp [Lit.wf, IntKind.min, IntKind.max] at h2; simp [IntKind.signed, IntKind.bits] at h2; omega
def hd (a : Int) : Bool := a == 1 || a == 2 || a == 3 || a == 4 || a == 5 || a == 8
def kd (a : Int) : Int :=
  if a % 16 = 1 then 1 else if a % 16 = 2 then (if a / 16 = 0 then 2 else 0) else if a % 16 = 3 then (if a / 16 < 262144 then 3 else 0)
  else if a % 16 = 4 then (if a / 16 < 262144 then 4 else 0) else if a % 16 = 15 then (if hd (a / 16 % 16) = true then (if a / 256 ≤ 262144 then 5 else 0) else 0) else 0
theorem headed_f (a : Int) : word_headed.f a = some (hd a) := by
  unfold word_headed.f hd
  by_cases h1 : a = 1; · subst h1; rfl
  by_cases h2 : a = 2; · subst h2; rfl
  by_cases h3 : a = 3; · subst h3; rfl
  by_cases h4 : a = 4; · subst h4; rfl
  by_cases h5 : a = 5; · subst h5; rfl
  by_cases h8 : a = 8; · subst h8; rfl
  simp [h1, h2, h3, h4, h5, h8]
theorem kind_f (k : Nat) (a : Int) (h0 : 0 ≤ a) (h1 : a < 18446744073709551616) : word_Kind.f (k + 1) a = some (kd a) := by
  unfold word_Kind.f kd
  simp only [word_Kind.j0]
  rw [u64_and15 a h0 h1, u64_and15 (a / 16) (by omega) (by omega), w64_id (a % 16) (by omega) (by omega), w64_id (a / 16 % 16) (by omega) (by omega), headed_f]
  have e : a / 16 / 16 = a / 256 := by omega
  rw [e]
  by_cases c1 : a % 16 = 1; · simp [c1]
  by_cases c2 : a % 16 = 2; · simp [c2]; split <;> rfl
  by_cases c3 : a % 16 = 3; · simp [c3]; split <;> rfl
  by_cases c4 : a % 16 = 4; · simp [c4]; split <;> rfl
  by_cases c5 : a % 16 = 15
  · simp [c5]; split <;> first | rfl | (split <;> rfl)
  · simp [c1, c2, c3, c4, c5]
theorem rheaded_f (a : Int) : parleyref01_headed.f a = some (hd a) := by
  unfold parleyref01_headed.f hd
  by_cases h1 : a = 1; · subst h1; rfl
  by_cases h2 : a = 2; · subst h2; rfl
  by_cases h3 : a = 3; · subst h3; rfl
  by_cases h4 : a = 4; · subst h4; rfl
  by_cases h5 : a = 5; · subst h5; rfl
  by_cases h8 : a = 8; · subst h8; rfl
  simp [h1, h2, h3, h4, h5, h8]
theorem ofint_f (n : Int) (h0 : -9223372036854775808 ≤ n) (h1 : n < 9223372036854775808) :
    word_OfInt.f n = some (if n < -576460752303423488 then (0, 7) else if n ≥ 576460752303423488 then (0, 7) else ((n * 16) % 18446744073709551616 + 1, 0)) := by
  unfold word_OfInt.f
  by_cases c1 : n < -576460752303423488; · simp [c1]
  by_cases c2 : n ≥ 576460752303423488; · simp [c1, c2]
  rw [if_neg c1, if_neg c2, if_neg c1, if_neg c2, wrap_u64]
  have e : wrap64 (n * 16) % 18446744073709551616 = (n * 16) % 18446744073709551616 := by unfold wrap64; omega
  rw [e, u64_or4 _ _ (by omega) (by omega) (by omega) (by omega) (by omega)]
theorem kd81 : kd 81 = 1 := by unfold kd; rw [if_pos (by omega)]
theorem kd2 : kd 2 = 2 := by unfold kd; rw [if_neg (by omega), if_pos (by omega), if_pos (by omega)]
theorem ofint5 : word_OfInt.f 5 = some (81, 0) := by
  rw [ofint_f 5 (by omega) (by omega), if_neg (by omega), if_neg (by omega)]
  rw [show (5 : Int) * 16 % 18446744073709551616 + 1 = 81 from by omega]
theorem bind_eq {α β : Type} {x : Option α} {a : α} {f : α → Option β} {r : Option β} (h : x = some a) (h2 : f a = r) : x.bind f = r := by rw [h]; exact h2
theorem ite_eq {α : Type} {c : Prop} [Decidable c] {a b r : α} (h : c) (h2 : a = r) : (if c then a else b) = r := by rw [if_pos h]; exact h2
theorem ite_ne {α : Type} {c : Prop} [Decidable c] {a b r : α} (h : ¬ c) (h2 : b = r) : (if c then a else b) = r := by rw [if_neg h]; exact h2
theorem value81 (k : Nat) : word_Value.f (k + 1) 81 = some (5, 0) := by
  have e : wrap64 81 / 16 = 5 := by rw [w64_id 81 (by omega) (by omega)]; omega
  unfold word_Value.f
  rw [kind_f k 81 (by omega) (by omega), kd81, e]
  rfl
theorem kind2 (k : Nat) : word_Kind.f (k + 1) 2 = some 2 := by
  rw [kind_f k 2 (by omega) (by omega), kd2]
theorem known_f (k : Nat) : parleylaw01_known.f (k + 1) = some true := by
  unfold parleylaw01_known.f
  refine bind_eq ofint5 ?_
  refine bind_eq (value81 k) ?_
  refine ite_eq rfl (ite_eq rfl (ite_eq rfl (ite_eq rfl ?_)))
  exact bind_eq (kind2 k) rfl
end WWordMakes
open WWordMakes
theorem rofint_f (n : Int) (h0 : -9223372036854775808 ≤ n) (h1 : n < 9223372036854775808) :
    parleyref01_OfInt.f n = some (if n < -576460752303423488 then (0, 7) else if n ≥ 576460752303423488 then (0, 7) else ((n * 16) % 18446744073709551616 + 1, 0)) := by
  unfold parleyref01_OfInt.f
  by_cases c1 : n < -576460752303423488; · simp [c1]
  by_cases c2 : n ≥ 576460752303423488; · simp [c1, c2]
  rw [if_neg c1, if_neg c2, if_neg c1, if_neg c2, wrap_u64, wrap_u64]
  have e : n % 18446744073709551616 * 16 % 18446744073709551616 = (n * 16) % 18446744073709551616 := by omega
  rw [e, u64_or4 _ _ (by omega) (by omega) (by omega) (by omega) (by omega)]
def plc (t a : Int) : Int × Int := if a < 0 then (0, 1) else if a ≥ 262144 then (0, 1) else (a * 16 + t, 0)
theorem placed_f (t a : Int) (t0 : 0 ≤ t) (t1 : t < 16) : word_placed.f t a = some (plc t a) := by
  unfold word_placed.f plc
  by_cases c1 : a < 0; · simp [c1]
  by_cases c2 : a ≥ 262144; · simp [c1, c2]
  rw [if_neg c1, if_neg c2, if_neg c1, if_neg c2, wrap_u64, wrap_u64, wrap_u64]
  rw [u64_or4 _ _ (by omega) (by omega) (by omega) (by omega) (by omega)]
  congr 2; omega
theorem rof_f (t a : Int) (t0 : 0 ≤ t) (t1 : t < 16) : parleyref01_Of.f t a = some (plc t a) := by
  unfold parleyref01_Of.f plc
  by_cases c1 : a < 0; · simp [c1]
  by_cases c2 : a ≥ 262144; · simp [c1, c2]
  rw [if_neg c1, if_neg c2, if_neg c1, if_neg c2, wrap_u64]
  rw [w64_id (a * 16) (by omega) (by omega), w64_id _ (by omega) (by omega)]
  congr 2; omega
theorem hd_bd {a : Int} (h : hd a = true) : 0 ≤ a ∧ a < 16 := by
  simp [hd] at h; omega
def hdw (k a : Int) : Int × Int := if hd k = true then (if a < 0 then (0, 1) else if a > 262144 then (0, 1) else (a * 256 + k * 16 + 15, 0)) else (0, 32)
theorem ofhead_f (k a : Int) : word_OfHead.f k a = some (hdw k a) := by
  unfold word_OfHead.f hdw
  refine bind_eq (headed_f k) ?_
  by_cases c : hd k = true
  · rw [if_pos c, if_pos c]
    have hb := hd_bd c
    by_cases c1 : a < 0; · simp [c1]
    by_cases c2 : a > 262144; · simp [c1, c2]
    rw [if_neg c1, if_neg c2, if_neg c1, if_neg c2]
    simp only [wrap_u64]
    rw [u64_or8 (a % 18446744073709551616 * 256 % 18446744073709551616) (k % 18446744073709551616 * 16 % 18446744073709551616) (by omega) (by omega) (by omega) (by omega) (by omega), u64_or4 _ _ (by omega) (by omega) (by omega) (by omega) (by omega)]
    congr 2; omega
  · rw [if_neg c, if_neg c]
theorem rofhead_f (k a : Int) : parleyref01_OfHead.f k a = some (hdw k a) := by
  unfold parleyref01_OfHead.f hdw
  refine bind_eq (rheaded_f k) ?_
  by_cases c : hd k = true
  · rw [if_pos c, if_pos c]
    have hb := hd_bd c
    by_cases c1 : a < 0; · simp [c1]
    by_cases c2 : a > 262144; · simp [c1, c2]
    rw [if_neg c1, if_neg c2, if_neg c1, if_neg c2]
    rw [w64_id (a * 16) (by omega) (by omega), w64_id (a * 16 + k) (by omega) (by omega), w64_id ((a * 16 + k) * 16) (by omega) (by omega), w64_id _ (by omega) (by omega), wrap_u64]
    congr 2; omega
  · rw [if_neg c, if_neg c]
theorem WordMakes : parleylaw01_WordMakes.Pure := by
  intro n a k wn wa wk
  obtain ⟨n0, n1⟩ := wf_i64 wn
  refine ⟨4, ?_⟩
  unfold parleylaw01_WordMakes.f
  refine bind_eq (ofint_f n n0 n1) (bind_eq (rofint_f n n0 n1) (ite_eq rfl ?_))
  generalize (if n < -576460752303423488 then ((0 : Int), (7 : Int)) else if n ≥ 576460752303423488 then (0, 7) else ((n * 16) % 18446744073709551616 + 1, 0)) = q
  rw [show (q.2 != q.2) = false by simp]
  simp only [parleylaw01_WordMakes.j0]
  refine ite_ne (by simp) ?_
  unfold word_OfCons.f
  refine bind_eq (bind_eq (placed_f 3 a (by omega) (by omega)) rfl) (bind_eq (rof_f 3 a (by omega) (by omega)) (ite_eq rfl ?_))
  generalize plc 3 a = q
  rw [show (q.2 != q.2) = false by simp]
  simp only [parleylaw01_WordMakes.j1]
  refine ite_ne (by simp) ?_
  unfold word_OfBox.f
  refine bind_eq (bind_eq (placed_f 4 a (by omega) (by omega)) rfl) (bind_eq (rof_f 4 a (by omega) (by omega)) (ite_eq rfl ?_))
  generalize plc 4 a = q
  rw [show (q.2 != q.2) = false by simp]
  simp only [parleylaw01_WordMakes.j2]
  refine ite_ne (by simp) ?_
  refine bind_eq (ofhead_f k a) (bind_eq (rofhead_f k a) (ite_eq rfl (ite_eq rfl ?_)))
  exact bind_eq (known_f 0) rfl
end Go.Proofs.Ytofpbiadnbbaoaa.Pure
