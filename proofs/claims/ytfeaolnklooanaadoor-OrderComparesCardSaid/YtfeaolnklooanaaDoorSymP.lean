/- Sorting by merges in place, as plain law: shuffles, the turn of two parts, what two merges make of it. -/
namespace Go.Proofs.YtfeaolnklooanaaDoor.Sx
set_option linter.unusedVariables false
set_option linter.unusedSimpArgs false
/-- d' is d, its places a, .., b - 1 shuffled. -/
def Shuf {α : Type} (a b : Nat) (d d' : Nat → α) : Prop :=
  ∃ σ τ : Nat → Nat, (∀ i, σ (τ i) = i) ∧ (∀ i, τ (σ i) = i) ∧ (∀ i, i < a ∨ b ≤ i → σ i = i) ∧ ∀ i, d' i = d (σ i)
namespace Shuf
variable {α : Type} {a b a' b' : Nat} {d e f : Nat → α}
theorem refl (a b : Nat) (d : Nat → α) : Shuf a b d d := ⟨id, id, fun _ => rfl, fun _ => rfl, fun _ _ => rfl, fun _ => rfl⟩
theorem trans (h : Shuf a b d e) (k : Shuf a b e f) : Shuf a b d f := by
  obtain ⟨σ, τ, h1, h2, h3, h4⟩ := h
  obtain ⟨σ', τ', k1, k2, k3, k4⟩ := k
  refine ⟨fun i => σ (σ' i), fun i => τ' (τ i), fun i => ?_, fun i => ?_, fun i hi => ?_, fun i => ?_⟩
  · show σ (σ' (τ' (τ i))) = i
    rw [k1, h1]
  · show τ' (τ (σ (σ' i))) = i
    rw [h2, k2]
  · show σ (σ' i) = i
    rw [k3 i hi, h3 i hi]
  · rw [k4, h4]
theorem mono (h : Shuf a b d e) (ha : a' ≤ a) (hb : b ≤ b') : Shuf a' b' d e := by
  obtain ⟨σ, τ, h1, h2, h3, h4⟩ := h
  exact ⟨σ, τ, h1, h2, fun i hi => h3 i (by omega), h4⟩
theorem out (h : Shuf a b d e) {i : Nat} (hi : i < a ∨ b ≤ i) : e i = d i := by
  obtain ⟨σ, τ, h1, h2, h3, h4⟩ := h
  rw [h4, h3 i hi]
/-- An element within comes from within. -/
theorem src (h : Shuf a b d e) {i : Nat} (ha : a ≤ i) (hb : i < b) : ∃ j, a ≤ j ∧ j < b ∧ e i = d j := by
  obtain ⟨σ, τ, h1, h2, h3, h4⟩ := h
  refine ⟨σ i, ?_, ?_, h4 i⟩
  · apply Nat.le_of_not_lt
    intro h
    have := h3 (σ i) (.inl h)
    have e1 := h2 (σ i)
    rw [this, h2] at e1
    omega
  · apply Nat.lt_of_not_le
    intro h
    have := h3 (σ i) (.inr h)
    have e1 := h2 (σ i)
    rw [this, h2] at e1
    omega
theorem symm (h : Shuf a b d e) : Shuf a b e d := by
  obtain ⟨σ, τ, h1, h2, h3, h4⟩ := h
  refine ⟨τ, σ, h2, h1, fun i hi => ?_, fun i => ?_⟩
  · have := congrArg τ (h3 i hi)
    rw [h2] at this
    exact this.symm
  · rw [h4, h1]
end Shuf
/-- Two elements exchanged. -/
def swp {α : Type} (d : Nat → α) (i j : Nat) : Nat → α := fun k => if k = i then d j else if k = j then d i else d k
theorem swp_at {α : Type} (d : Nat → α) (i j : Nat) : swp d i j i = d j := by simp [swp]
theorem swp_to {α : Type} (d : Nat → α) (i j : Nat) : swp d i j j = d i := by
  simp only [swp]
  split
  · rename_i h; rw [h]
  · simp
theorem swp_of {α : Type} (d : Nat → α) {i j k : Nat} (h : k ≠ i) (h2 : k ≠ j) : swp d i j k = d k := by simp [swp, h, h2]
theorem shuf_swp {α : Type} (d : Nat → α) {a b i j : Nat} (hi : a ≤ i ∧ i < b) (hj : a ≤ j ∧ j < b) : Shuf a b d (swp d i j) := by
  refine ⟨fun k => if k = i then j else if k = j then i else k, fun k => if k = i then j else if k = j then i else k, fun k => ?_, fun k => ?_, fun k hk => ?_, fun k => ?_⟩
  · show (if (if k = i then j else if k = j then i else k) = i then j else if (if k = i then j else if k = j then i else k) = j then i else (if k = i then j else if k = j then i else k)) = k
    repeat' split
    all_goals omega
  · show (if (if k = i then j else if k = j then i else k) = i then j else if (if k = i then j else if k = j then i else k) = j then i else (if k = i then j else if k = j then i else k)) = k
    repeat' split
    all_goals omega
  · show (if k = i then j else if k = j then i else k) = k
    repeat' split
    all_goals omega
  · show swp d i j k = d (if k = i then j else if k = j then i else k)
    simp only [swp]
    repeat' split
    all_goals rfl
/-- A total order up to what stands alike. -/
structure Ord {α : Type} (R : α → α → Prop) : Prop where
  total : ∀ x y, R x y ∨ R y x
  trans : ∀ {x y z}, R x y → R y z → R x z
theorem Ord.refl {α : Type} {R : α → α → Prop} (h : Ord R) (x : α) : R x x := (h.total x x).elim id id
/-- In order from a up to b. -/
def Srt {α : Type} (R : α → α → Prop) (a b : Nat) (d : Nat → α) : Prop := ∀ i j, a ≤ i → i ≤ j → j < b → R (d i) (d j)
/-- The comparison tells of two elements: the one behind goes ahead just where the order says so. -/
def Tells {α : Type} (R : α → α → Prop) (cf : α → α → Int) (a m b : Nat) (d : Nat → α) : Prop := ∀ i j, a ≤ i → i < m → m ≤ j → j < b → (cf (d j) (d i) < 0 ↔ ¬ R (d i) (d j))
section
variable {α : Type} {R : α → α → Prop} {cf : α → α → Int} {a m b : Nat} {d e f : Nat → α}
theorem Srt.sub {a' b' : Nat} (h : Srt R a b d) (ha : a ≤ a') (hb : b' ≤ b) : Srt R a' b' d := fun i j h1 h2 h3 => h i j (by omega) h2 (by omega)
theorem Srt.congr (h : Srt R a b d) (e : ∀ i, a ≤ i → i < b → f i = d i) : Srt R a b f := fun i j h1 h2 h3 => by rw [e i h1 (by omega), e j (by omega) h3]; exact h i j h1 h2 h3
theorem Srt.one (hR : Ord R) (h : b ≤ a + 1) (d : Nat → α) : Srt R a b d := fun i j h1 h2 h3 => by
  obtain rfl : i = j := by omega
  exact hR.refl _
/-- Two parts in order, all of the first ahead of all of the second. -/
theorem Srt.join (h : Srt R a m d) (k : Srt R m b d) (c : ∀ i j, a ≤ i → i < m → m ≤ j → j < b → R (d i) (d j)) : Srt R a b d := fun i j h1 h2 h3 => by
  rcases Nat.lt_or_ge j m with q | q
  · exact h i j h1 h2 q
  · rcases Nat.lt_or_ge i m with p | p
    · exact c i j h1 p q h3
    · exact k i j p h2 h3
theorem Tells.shuf (h : Tells R cf a m b d) (k : Shuf a m d e) (k2 : Shuf m b e f) : Tells R cf a m b f := fun i j h1 h2 h3 h4 => by
  obtain ⟨j', q1, q2, q3⟩ := k2.src h3 h4
  obtain ⟨i', p1, p2, p3⟩ := k.src h1 h2
  rw [k2.out (.inl h2), q3, k.out (.inr q1), p3]
  exact h i' j' p1 p2 q1 q2
/-- What the turn of d[s:m] and d[m:e] makes. -/
def rot (d : Nat → α) (s m e : Nat) : Nat → α := fun x => if x < s ∨ e ≤ x then d x else if x + m < s + e then d (x + m - s) else d (x + m - e)
theorem shuf_rot (d : Nat → α) {s m e : Nat} (h1 : s ≤ m) (h2 : m ≤ e) : Shuf s e d (rot d s m e) := by
  refine ⟨fun x => if x < s ∨ e ≤ x then x else if x + m < s + e then x + m - s else x + m - e, fun x => if x < s ∨ e ≤ x then x else if x < m then x + e - m else x + s - m, fun x => ?_, fun x => ?_, fun x hx => ?_, fun x => ?_⟩
  · dsimp only
    repeat' split
    all_goals omega
  · dsimp only
    repeat' split
    all_goals omega
  · dsimp only
    rw [if_pos hx]
  · show rot d s m e x = d (if x < s ∨ e ≤ x then x else if x + m < s + e then x + m - s else x + m - e)
    unfold rot
    repeat' split
    all_goals rfl
/-- What a rotation hands to the two merges, and what they make of it. -/
theorem sym_join (hR : Ord R) {mid st en : Nat} (hd1 : Srt R a m d) (hd2 : Srt R m b d) (h1 : a ≤ st) (h2 : st ≤ m) (h3 : m ≤ en) (h4 : en ≤ b) (h5 : st + en = mid + m) (hm1 : st ≤ mid) (hm2 : mid ≤ en)
    (hlo : ∀ i j, a ≤ i → i < st → en ≤ j → j < b → R (d i) (d j)) (hhi : ∀ i j, m ≤ i → i < en → st ≤ j → j < m → R (d i) (d j))
    (he1 : Shuf a mid (rot d st m en) e) (he2 : Shuf mid b e f) (hs1 : Srt R a mid e) (hs2 : Srt R mid b f) : Srt R a b f ∧ Shuf a b d f := by
  have hrot := shuf_rot d h2 h3
  refine ⟨Srt.join (hs1.congr fun i q1 q2 => he2.out (.inl q2)) hs2 fun i j q1 q2 q3 q4 => ?_, ((hrot.mono h1 h4).trans (he1.mono (Nat.le_refl _) (by omega))).trans (he2.mono (by omega) (Nat.le_refl _))⟩
  obtain ⟨j', p1, p2, p3⟩ := he2.src q3 q4
  obtain ⟨i', r1, r2, r3⟩ := he1.src q1 q2
  rw [p3, he1.out (.inr p1), he2.out (.inl q2), r3]
  unfold rot
  rcases Nat.lt_or_ge i' st with u | u
  · rw [if_pos (.inl u)]
    rcases Nat.lt_or_ge j' en with v | v
    · rw [if_neg (by omega), if_neg (by omega)]
      exact hd1 _ _ (by omega) (by omega) (by omega)
    · rw [if_pos (.inr v)]
      exact hlo _ _ r1 u v p2
  · rw [if_neg (by omega), if_pos (by omega)]
    rcases Nat.lt_or_ge j' en with v | v
    · rw [if_neg (by omega), if_neg (by omega)]
      exact hhi _ _ (by omega) (by omega) (by omega) (by omega)
    · rw [if_pos (.inr v)]
      exact hd2 _ _ (by omega) (by omega) (by omega)
/-- The parts that are handed on lie in order. -/
theorem rot_left {mid st en : Nat} (hd1 : Srt R a m d) (h1 : a ≤ st) (h2 : st ≤ m) (h3 : m ≤ en) (h5 : st + en = mid + m) (hm1 : st ≤ mid) : Srt R a st (rot d st m en) := fun i j q1 q2 q3 => by
  unfold rot
  rw [if_pos (.inl (by omega)), if_pos (.inl (by omega))]
  exact hd1 _ _ q1 q2 (by omega)
theorem rot_mid {mid st en : Nat} (hd2 : Srt R m b d) (h2 : st ≤ m) (h3 : m ≤ en) (h4 : en ≤ b) (h5 : st + en = mid + m) : Srt R st mid (rot d st m en) := fun i j q1 q2 q3 => by
  unfold rot
  rw [if_neg (by omega), if_pos (by omega), if_neg (by omega), if_pos (by omega)]
  exact hd2 _ _ (by omega) (by omega) (by omega)
theorem rot_mid2 {mid st en : Nat} (hd1 : Srt R a m d) (h1 : a ≤ st) (h2 : st ≤ m) (h3 : m ≤ en) (h5 : st + en = mid + m) : Srt R mid en (rot d st m en) := fun i j q1 q2 q3 => by
  unfold rot
  rw [if_neg (by omega), if_neg (by omega), if_neg (by omega), if_neg (by omega)]
  exact hd1 _ _ (by omega) (by omega) (by omega)
theorem rot_right {mid st en : Nat} (hd2 : Srt R m b d) (h3 : m ≤ en) : Srt R en b (rot d st m en) := fun i j q1 q2 q3 => by
  unfold rot
  rw [if_pos (.inr (by omega)), if_pos (.inr (by omega))]
  exact hd2 _ _ (by omega) q2 q3
/-- A turn of nothing. -/
theorem rot_none {st en : Nat} (h : st = m ∨ m = en) (d : Nat → α) : rot d st m en = d := by
  funext x
  unfold rot
  split
  · rfl
  · split
    · congr 1; omega
    · congr 1; omega
theorem tells_left {mid st en : Nat} (h : Tells R cf a m b d) (h1 : a ≤ st) (h2 : st ≤ m) (h3 : m ≤ en) (h4 : en ≤ b) (h5 : st + en = mid + m) : Tells R cf a st mid (rot d st m en) := fun i j q1 q2 q3 q4 => by
  unfold rot
  rw [if_neg (by omega), if_pos (by omega), if_pos (.inl (by omega))]
  exact h _ _ q1 (by omega) (by omega) (by omega)
theorem tells_right {mid st en : Nat} (h : Tells R cf a m b d) (h1 : a ≤ st) (h2 : st ≤ m) (h3 : m ≤ en) (h4 : en ≤ b) (h5 : st + en = mid + m) : Tells R cf mid en b (rot d st m en) := fun i j q1 q2 q3 q4 => by
  unfold rot
  rw [if_pos (.inr (by omega)), if_neg (by omega), if_neg (by omega)]
  exact h _ _ (by omega) (by omega) (by omega) q4
end
end Go.Proofs.YtfeaolnklooanaaDoor.Sx
