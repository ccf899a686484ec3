/- Proved: what OfInt, OfCons, OfBox, OfHead make is told back by Value, At, Split and Kind, and each word is made again of what it says. No conditions. -/
import Derived.Test.YtofpbiadnbbaoaaPWordBackx3
import Derived.Laws.BitsLemmas
namespace Go.Proofs.Ytofpbiadnbbaoaa.Pure
open Go.RowKit Go.Proofs.Ytofpbiadnbbaoaa.PWordBack Go.Proofs.YtofpbiadnbbaoaaW.PrintWords Go.Proofs.YtofpbiadnbbaoaaW.PrintLast
set_option linter.unusedVariables false
namespace WWordBack
theorem u64_wraps (n : Int) (h₀ : 0 ≤ n) (h₁ : n < 2 ^ 64) : IntKind.u64.wrap n = n := by
  simp [IntKind.wrap, IntKind.bits, IntKind.signed]; omega
theorem u64_and15 (x : Int) (h₀ : 0 ≤ x) (h₁ : x < 18446744073709551616) : Go.bits .and .u64 x 15 = x % 16 :=
  bits_mask .u64 64 (by decide) u64_wraps 4 (by decide) x h₀ h₁
theorem u64_or4 (x y : Int) (hx₀ : 0 ≤ x) (hx : x % 16 = 0) (hx₁ : x < 18446744073709551616) (h₀ : 0 ≤ y) (h₁ : y < 16) : Go.bits .or .u64 x y = x + y :=
  bits_join .u64 64 (by decide) u64_wraps 4 x y hx₀ hx hx₁ h₀ h₁ (by omega)
theorem u64_or8 (x y : Int) (hx₀ : 0 ≤ x) (hx : x % 256 = 0) (hx₁ : x < 18446744073709551616) (h₀ : 0 ≤ y) (h₁ : y < 256) : Go.bits .or .u64 x y = x + y :=
  bits_join .u64 64 (by decide) u64_wraps 8 x y hx₀ hx hx₁ h₀ h₁ (by omega)
theorem wrap_u64 (n : Int) : IntKind.u64.wrap n = n % 18446744073709551616 := by simp [IntKind.wrap, IntKind.bits, IntKind.signed]
theorem w64_id (n : Int) (h₀ : -9223372036854775808 ≤ n) (h₁ : n < 9223372036854775808) : wrap64 n = n := by unfold wrap64; omega
theorem wf_u64 {a : Int} (h : (Lit.int .u64 a).wf = true) : 0 ≤ a ∧ a < 18446744073709551616 := by
  have h2 := h; simp [Lit.wf, IntKind.min, IntKind.max] at h2; simp [IntKind.signed, IntKind.bits] at h2; omega
theorem wf_i64 {a : Int} (h : (Lit.int .i64 a).wf = true) : -9223372036854775808 ≤ a ∧ a < 9223372036854775808 := by
  have h2 := h; simp [Lit.wf, IntKind.min, IntKind.max] at h2; simp [IntKind.signed, IntKind.bits] at h2; omega
def hd (a : Int) : Bool := a == 1 || a == 2 || a == 3 || a == 4 || a == 5 || a == 8
def kd (a : Int) : Int :=
  if a % 16 = 1 then 1 else if a % 16 = 2 then (if a / 16 = 0 then 2 else 0) else if a % 16 = 3 then (if a / 16 < 262144 then 3 else 0)
  else if a % 16 = 4 then (if a / 16 < 262144 then 4 else 0) else if a % 16 = 15 then (if hd (a / 16 % 16) = true then (if a / 256 ≤ 262144 then 5 else 0) else 0) else 0
theorem headed_f (a : Int) : word_headed.f a = some (hd a) := by
  unfold word_headed.f hd
  by_cases h1 : a = 1; · subst h1; rfl
  by_cases h2 : a = 2; · subst h2; rfl
  by_cases h3 : a = 3; · subst h3; rfl
  by_cases h4 : a = 4; · subst h4; rfl
  by_cases h5 : a = 5; · subst h5; rfl
  by_cases h8 : a = 8; · subst h8; rfl
  simp [h1, h2, h3, h4, h5, h8]
theorem kind_f (k : Nat) (a : Int) (h0 : 0 ≤ a) (h1 : a < 18446744073709551616) : word_Kind.f (k + 1) a = some (kd a) := by
  unfold word_Kind.f kd
  simp only [word_Kind.j0]
  rw [u64_and15 a h0 h1, u64_and15 (a / 16) (by omega) (by omega), w64_id (a % 16) (by omega) (by omega), w64_id (a / 16 % 16) (by omega) (by omega), headed_f]
  have e : a / 16 / 16 = a / 256 := by omega
  rw [e]
  by_cases c1 : a % 16 = 1; · simp [c1]
  by_cases c2 : a % 16 = 2; · simp [c2]; split <;> rfl
  by_cases c3 : a % 16 = 3; · simp [c3]; split <;> rfl
  by_cases c4 : a % 16 = 4; · simp [c4]; split <;> rfl
  by_cases c5 : a % 16 = 15
  · simp [c5]; split <;> first | rfl | (split <;> rfl)
  · simp [c1, c2, c3, c4, c5]
theorem ofint_f (n : Int) (h0 : -9223372036854775808 ≤ n) (h1 : n < 9223372036854775808) :
    word_OfInt.f n = some (if n < -576460752303423488 then (0, 7) else if n ≥ 576460752303423488 then (0, 7) else ((n * 16) % 18446744073709551616 + 1, 0)) := by
  unfold word_OfInt.f
  by_cases c1 : n < -576460752303423488; · simp [c1]
  by_cases c2 : n ≥ 576460752303423488; · simp [c1, c2]
  rw [if_neg c1, if_neg c2, if_neg c1, if_neg c2, wrap_u64]
  have e : wrap64 (n * 16) % 18446744073709551616 = (n * 16) % 18446744073709551616 := by unfold wrap64; omega
  rw [e, u64_or4 _ _ (by omega) (by omega) (by omega) (by omega) (by omega)]
theorem kd81 : kd 81 = 1 := by unfold kd; rw [if_pos (by omega)]
theorem kd2 : kd 2 = 2 := by unfold kd; rw [if_neg (by omega), if_pos (by omega), if_pos (by omega)]
theorem ofint5 : word_OfInt.f 5 = some (81, 0) := by
  rw [ofint_f 5 (by omega) (by omega), if_neg (by omega), if_neg (by omega)]
  rw [show (5 : Int) * 16 % 18446744073709551616 + 1 = 81 from by omega]
theorem bind_eq {α β : Type} {x : Option α} {a : α} {f : α → Option β} {r : Option β} (h : x = some a) (h2 : f a = r) : x.bind f = r := by rw [h]; exact h2
theorem ite_eq {α : Type} {c : Prop} [Decidable c] {a b r : α} (h : c) (h2 : a = r) : (if c then a else b) = r := by rw [if_pos h]; exact h2
theorem ite_ne {α : Type} {c : Prop} [Decidable c] {a b r : α} (h : ¬ c) (h2 : b = r) : (if c then a else b) = r := by rw [if_neg h]; exact h2
theorem value81 (k : Nat) : word_Value.f (k + 1) 81 = some (5, 0) := by
  have e : wrap64 81 / 16 = 5 := by rw [w64_id 81 (by omega) (by omega)]; omega
  unfold word_Value.f
  rw [kind_f k 81 (by omega) (by omega), kd81, e]
  rfl
theorem kind2 (k : Nat) : word_Kind.f (k + 1) 2 = some 2 := by
  rw [kind_f k 2 (by omega) (by omega), kd2]
theorem known_f (k : Nat) : parleylaw01_known.f (k + 1) = some true := by
  unfold parleylaw01_known.f
  refine bind_eq ofint5 ?_
  refine bind_eq (value81 k) ?_
  refine ite_eq rfl (ite_eq rfl (ite_eq rfl (ite_eq rfl ?_)))
  exact bind_eq (kind2 k) rfl
end WWordBack
open WWordBack
def plc (t a : Int) : Int × Int := if a < 0 then (0, 1) else if a ≥ 262144 then (0, 1) else (a * 16 + t, 0)
theorem placed_f (t a : Int) (t0 : 0 ≤ t) (t1 : t < 16) : word_placed.f t a = some (plc t a) := by
  unfold word_placed.f plc
  by_cases c1 : a < 0; · simp [c1]
  by_cases c2 : a ≥ 262144; · simp [c1, c2]
  rw [if_neg c1, if_neg c2, if_neg c1, if_neg c2, wrap_u64, wrap_u64, wrap_u64]
  rw [u64_or4 _ _ (by omega) (by omega) (by omega) (by omega) (by omega)]
  congr 2; omega
theorem plc_ok (t a : Int) (h0 : 0 ≤ a) (h1 : a < 262144) : plc t a = (a * 16 + t, 0) := by
  unfold plc; rw [if_neg (by omega), if_neg (by omega)]
theorem cons_f (a : Int) : word_OfCons.f a = some (plc 3 a) := bind_eq (placed_f 3 a (by omega) (by omega)) rfl
theorem box_f (a : Int) : word_OfBox.f a = some (plc 4 a) := bind_eq (placed_f 4 a (by omega) (by omega)) rfl
theorem hd_bd {a : Int} (h : hd a = true) : 0 ≤ a ∧ a < 16 := by
  simp [hd] at h; omega
def hdw (k a : Int) : Int × Int := if hd k = true then (if a < 0 then (0, 1) else if a > 262144 then (0, 1) else (a * 256 + k * 16 + 15, 0)) else (0, 32)
theorem ofhead_f (k a : Int) : word_OfHead.f k a = some (hdw k a) := by
  unfold word_OfHead.f hdw
  refine bind_eq (headed_f k) ?_
  by_cases c : hd k = true
  · rw [if_pos c, if_pos c]
    have hb := hd_bd c
    by_cases c1 : a < 0; · simp [c1]
    by_cases c2 : a > 262144; · simp [c1, c2]
    rw [if_neg c1, if_neg c2, if_neg c1, if_neg c2]
    simp only [wrap_u64]
    rw [u64_or8 (a % 18446744073709551616 * 256 % 18446744073709551616) (k % 18446744073709551616 * 16 % 18446744073709551616) (by omega) (by omega) (by omega) (by omega) (by omega), u64_or4 _ _ (by omega) (by omega) (by omega) (by omega) (by omega)]
    congr 2; omega
  · rw [if_neg c, if_neg c]
def inS (w : Int) : Prop := 0 ≤ w ∧ w < 18446744073709551616
theorem value_f (k : Nat) (w : Int) (h : inS w) : word_Value.f (k + 1) w = some (if kd w = 1 then (wrap64 w / 16, 0) else (0, 32)) := by
  unfold word_Value.f
  refine bind_eq (kind_f k w h.1 h.2) ?_
  split <;> rfl
theorem at_f (k : Nat) (w : Int) (h : inS w) : word_At.f (k + 1) w = some (if kd w = 3 then (w / 16, 0) else if kd w = 4 then (w / 16, 0) else (0, 32)) := by
  obtain ⟨h0, h1⟩ := h
  unfold word_At.f
  refine bind_eq (kind_f k w h0 h1) ?_
  have e : wrap64 (w / 16) = w / 16 := w64_id _ (by omega) (by omega)
  rw [e]
  split <;> first | rfl | (split <;> rfl)
theorem split_f (k : Nat) (w : Int) (h : inS w) : word_Split.f (k + 1) w = some (if kd w = 5 then (w / 16 % 16, w / 256, 0) else (0, 0, 32)) := by
  obtain ⟨h0, h1⟩ := h
  unfold word_Split.f
  refine bind_eq (kind_f k w h0 h1) ?_
  rw [u64_and15 (w / 16) (by omega) (by omega), w64_id (w / 16 % 16) (by omega) (by omega), w64_id (w / 256) (by omega) (by omega)]
  split <;> rfl
theorem kd_1 {w : Int} (h : kd w = 1) : w % 16 = 1 := by unfold kd at h; (repeat' (split at h)) <;> omega
theorem kd_2 {w : Int} (h : kd w = 2) : w = 2 := by unfold kd at h; (repeat' (split at h)) <;> omega
theorem kd_3 {w : Int} (h : kd w = 3) : w % 16 = 3 ∧ w / 16 < 262144 := by unfold kd at h; (repeat' (split at h)) <;> omega
theorem kd_4 {w : Int} (h : kd w = 4) : w % 16 = 4 ∧ w / 16 < 262144 := by unfold kd at h; (repeat' (split at h)) <;> omega
theorem kd_5 {w : Int} (h : kd w = 5) : w % 16 = 15 ∧ hd (w / 16 % 16) = true ∧ w / 256 ≤ 262144 := by
  unfold kd at h
  (repeat' (split at h)) <;> first | omega | (refine ⟨by omega, by assumption, by omega⟩)
theorem kd_in (w : Int) : kd w = 0 ∨ kd w = 1 ∨ kd w = 2 ∨ kd w = 3 ∨ kd w = 4 ∨ kd w = 5 := by
  unfold kd
  (repeat' split) <;> simp
theorem again_f (k : Nat) (w : Int) (h : inS w) : parleylaw01_again.f (k + 1) w = some true := by
  have hs := h
  obtain ⟨h0, h1⟩ := h
  unfold parleylaw01_again.f
  refine bind_eq (kind_f k w h0 h1) ?_
  rcases kd_in w with c | c | c | c | c | c
  · refine ite_ne (by omega) (ite_ne (by omega) (ite_ne (by omega) (ite_ne (by omega) (ite_ne (by omega) ?_))))
    refine bind_eq (value_f k w hs) (bind_eq (at_f k w hs) (bind_eq (split_f k w hs) ?_))
    rw [c]; rfl
  · have hm := kd_1 c
    refine ite_eq c (bind_eq (value_f k w hs) ?_)
    rw [if_pos c]
    refine bind_eq (ofint_f (wrap64 w / 16) (by unfold wrap64; omega) (by unfold wrap64; omega)) ?_
    have e1 : ¬ wrap64 w / 16 < -576460752303423488 := by unfold wrap64; omega
    have e2 : ¬ wrap64 w / 16 ≥ 576460752303423488 := by unfold wrap64; omega
    rw [if_neg e1, if_neg e2]
    refine ite_eq rfl ?_
    have e : wrap64 w / 16 * 16 % 18446744073709551616 + 1 = w := by unfold wrap64; omega
    show some (wrap64 w / 16 * 16 % 18446744073709551616 + 1 == w) = some true
    rw [e, beq_self_eq_true]
  · refine ite_ne (by omega) (ite_ne (by omega) (ite_ne (by omega) (ite_ne (by omega) (ite_eq c ?_))))
    rw [kd_2 c]; rfl
  · have hm := kd_3 c
    refine ite_ne (by omega) (ite_eq c (bind_eq (at_f k w hs) ?_))
    rw [if_pos c]
    refine bind_eq (cons_f (w / 16)) ?_
    rw [plc_ok 3 (w / 16) (by omega) (by omega)]
    refine ite_eq rfl ?_
    show some (w / 16 * 16 + 3 == w) = some true
    rw [show w / 16 * 16 + 3 = w by omega, beq_self_eq_true]
  · have hm := kd_4 c
    refine ite_ne (by omega) (ite_ne (by omega) (ite_eq c (bind_eq (at_f k w hs) ?_)))
    rw [if_neg (show ¬ kd w = 3 by omega), if_pos c]
    refine bind_eq (box_f (w / 16)) ?_
    rw [plc_ok 4 (w / 16) (by omega) (by omega)]
    refine ite_eq rfl ?_
    show some (w / 16 * 16 + 4 == w) = some true
    rw [show w / 16 * 16 + 4 = w by omega, beq_self_eq_true]
  · have hm := kd_5 c
    refine ite_ne (by omega) (ite_ne (by omega) (ite_ne (by omega) (ite_eq c (bind_eq (split_f k w hs) ?_))))
    rw [if_pos c]
    refine bind_eq (ofhead_f (w / 16 % 16) (w / 256)) ?_
    have eh : hdw (w / 16 % 16) (w / 256) = (w / 256 * 256 + w / 16 % 16 * 16 + 15, 0) := by
      unfold hdw
      rw [if_pos hm.2.1, if_neg (by omega), if_neg (by omega)]
    rw [eh]
    refine ite_eq rfl ?_
    show some (w / 256 * 256 + w / 16 % 16 * 16 + 15 == w) = some true
    rw [show w / 256 * 256 + w / 16 % 16 * 16 + 15 = w by omega, beq_self_eq_true]
theorem hd_ne {a : Int} (h : hd a = true) : a = 1 ∨ a = 2 ∨ a = 3 ∨ a = 4 ∨ a = 5 ∨ a = 8 := by
  simp [hd] at h; omega
theorem end_f (k : Nat) (w : Int) (h : inS w) : ((parleylaw01_again.f (k + 1) w).bind fun t => if t = true then ((parleylaw01_known.f (k + 1)).bind fun u => (some u)) else (some false)) = some true :=
  bind_eq (again_f k w h) (ite_eq rfl (bind_eq (known_f k) rfl))
theorem j2_f (k : Nat) (w : Int) (h : inS w) : parleylaw01_WordBack.j2 (k + 2) w false = some true := by
  simp only [parleylaw01_WordBack.j2]
  exact ite_ne (by decide) (end_f k w h)
theorem j1_f (k : Nat) (a q w : Int) (h : inS w) : parleylaw01_WordBack.j1 (k + 3) a q w = some true := by
  simp only [parleylaw01_WordBack.j1]
  refine bind_eq (ofhead_f q a) ?_
  unfold hdw
  by_cases c : hd q = true
  · have hb := hd_bd c
    rw [if_pos c]
    by_cases c1 : a < 0
    · rw [if_pos c1]; exact ite_ne (by decide) (end_f (k + 1) w h)
    by_cases c2 : a > 262144
    · rw [if_neg c1, if_pos c2]; exact ite_ne (by decide) (end_f (k + 1) w h)
    rw [if_neg c1, if_neg c2]
    refine ite_eq rfl ?_
    show ((word_Split.f (k + 1 + 1) (a * 256 + q * 16 + 15)).bind _) = _
    have hk : kd (a * 256 + q * 16 + 15) = 5 := by
      unfold kd
      rw [if_neg (by omega), if_neg (by omega), if_neg (by omega), if_neg (by omega), if_pos (by omega), show (a * 256 + q * 16 + 15) / 16 % 16 = q by omega, if_pos c, if_pos (by omega)]
    have hi : inS (a * 256 + q * 16 + 15) := ⟨by omega, by omega⟩
    refine bind_eq (split_f (k + 1) _ hi) ?_
    rw [if_pos hk]
    refine ite_eq (by show (a * 256 + q * 16 + 15) / 16 % 16 = q; omega) (ite_eq (by show (a * 256 + q * 16 + 15) / 256 = a; omega) (ite_eq rfl ?_))
    refine bind_eq (kind_f (k + 1) (a * 256 + q * 16 + 15) hi.1 hi.2) ?_
    rw [hk]
    exact j2_f k w h
  · rw [if_neg c]; exact ite_ne (by decide) (end_f (k + 1) w h)
theorem j0_f (k : Nat) (a q w : Int) (h : inS w) : parleylaw01_WordBack.j0 (k + 4) a q w = some true := by
  simp only [parleylaw01_WordBack.j0]
  refine bind_eq (cons_f a) (bind_eq (box_f a) ?_)
  unfold plc
  by_cases c1 : a < 0
  · rw [if_pos c1, if_pos c1]; exact ite_eq rfl (ite_ne (by decide) (j1_f k a q w h))
  by_cases c2 : a ≥ 262144
  · rw [if_neg c1, if_pos c2, if_neg c1, if_pos c2]; exact ite_eq rfl (ite_ne (by decide) (j1_f k a q w h))
  rw [if_neg c1, if_neg c2, if_neg c1, if_neg c2]
  refine ite_eq rfl (ite_eq rfl ?_)
  have k3 : kd (a * 16 + 3) = 3 := by unfold kd; rw [if_neg (by omega), if_neg (by omega), if_pos (by omega), if_pos (by omega)]
  have k4 : kd (a * 16 + 4) = 4 := by unfold kd; rw [if_neg (by omega), if_neg (by omega), if_neg (by omega), if_pos (by omega), if_pos (by omega)]
  have i3 : inS (a * 16 + 3) := ⟨by omega, by omega⟩
  have i4 : inS (a * 16 + 4) := ⟨by omega, by omega⟩
  refine bind_eq (at_f (k + 2) (a * 16 + 3) i3) (bind_eq (at_f (k + 2) (a * 16 + 4) i4) ?_)
  rw [if_pos k3, if_neg (show ¬ kd (a * 16 + 4) = 3 by omega), if_pos k4]
  refine ite_eq (by show (a * 16 + 3) / 16 = a; omega) (ite_eq (by show (a * 16 + 4) / 16 = a; omega) (ite_eq rfl (ite_eq rfl (ite_ne (by show ¬ a * 16 + 3 = a * 16 + 4; omega) ?_))))
  refine bind_eq (kind_f (k + 2) (a * 16 + 3) i3.1 i3.2) (ite_eq k3 (bind_eq (kind_f (k + 2) (a * 16 + 4) i4.1 i4.2) (ite_eq k4 ?_)))
  exact j1_f k a q w h
theorem WordBack : parleylaw01_WordBack.Pure := by
  intro n a q w wn wa wq ww
  obtain ⟨n0, n1⟩ := wf_i64 wn
  have hw : inS w := wf_u64 ww
  refine ⟨4, ?_⟩
  unfold parleylaw01_WordBack.f
  refine bind_eq (ofint_f n n0 n1) ?_
  by_cases c1 : n < -576460752303423488
  · rw [if_pos c1]; exact ite_ne (by decide) (j0_f 0 a q w hw)
  by_cases c2 : n ≥ 576460752303423488
  · rw [if_neg c1, if_pos c2]; exact ite_ne (by decide) (j0_f 0 a q w hw)
  rw [if_neg c1, if_neg c2]
  have hk : kd (n * 16 % 18446744073709551616 + 1) = 1 := by unfold kd; rw [if_pos (by omega)]
  have hi : inS (n * 16 % 18446744073709551616 + 1) := ⟨by omega, by omega⟩
  refine ite_eq rfl (bind_eq (value_f 3 _ hi) ?_)
  rw [if_pos hk]
  refine ite_eq rfl (ite_eq (by show wrap64 (n * 16 % 18446744073709551616 + 1) / 16 = n; unfold wrap64; omega) ?_)
  exact bind_eq (kind_f 3 _ hi.1 hi.2) (ite_eq hk (j0_f 0 a q w hw))
end Go.Proofs.Ytofpbiadnbbaoaa.Pure
