/- The order of terms, as plain data: cell by cell. Plain lists. -/
import Derived.Test.YtefpolgflimlgaaDoorEndsP
namespace Go.Proofs.YtefpolgflimlgaaDoor.Tm
set_option linter.unusedVariables false
set_option linter.unusedSimpArgs false

/-- -1, 0, 1 of two texts' bytes. -/
def bytesCmp : List UInt8 → List UInt8 → Int
  | [], [] => 0
  | [], _ :: _ => -1
  | _ :: _, [] => 1
  | x :: xs, y :: ys => if x < y then -1 else if y < x then 1 else bytesCmp xs ys
def intCmp (a b : Int) : Int := if a < b then -1 else if b < a then 1 else 0
def cellCmp (a b : CellD) : Int :=
  if a.kind ≠ b.kind then intCmp a.kind b.kind else if intCmp a.n b.n ≠ 0 then intCmp a.n b.n else bytesCmp a.text.data.toList b.text.data.toList
def termCmp : List CellD → List CellD → Int
  | a :: l, b :: m => if cellCmp a b ≠ 0 then cellCmp a b else termCmp l m
  | _, _ => 0
/-- Both ways are told at once: what the order laws ask. -/
structure Sides (x y : Int) : Prop where
  turn : x = -y
  rng : x = -1 ∨ x = 0 ∨ x = 1
theorem bytes_sides : ∀ a b, Sides (bytesCmp a b) (bytesCmp b a)
  | [], [] => ⟨rfl, .inr (.inl rfl)⟩
  | [], _ :: _ => ⟨rfl, .inl rfl⟩
  | _ :: _, [] => ⟨rfl, .inr (.inr rfl)⟩
  | x :: xs, y :: ys => by
    unfold bytesCmp
    by_cases h1 : x < y
    · have h2 : ¬ y < x := fun h => absurd (UInt8.lt_trans h1 h) (UInt8.lt_irrefl _)
      rw [if_pos h1, if_neg h2, if_pos h1]
      exact ⟨rfl, .inl rfl⟩
    · by_cases h2 : y < x
      · rw [if_neg h1, if_pos h2, if_pos h2]
        exact ⟨rfl, .inr (.inr rfl)⟩
      · rw [if_neg h1, if_neg h2, if_neg h2, if_neg h1]
        exact bytes_sides xs ys
theorem bytes_eq : ∀ a b, bytesCmp a b = 0 → a = b
  | [], [], _ => rfl
  | [], _ :: _, h => by cases h
  | _ :: _, [], h => by cases h
  | x :: xs, y :: ys, h => by
    unfold bytesCmp at h
    split at h
    · cases h
    · split at h
      · cases h
      · rename_i h1 h2
        have e : x = y := by
          have h1' := UInt8.not_lt.1 h1
          have h2' := UInt8.not_lt.1 h2
          exact UInt8.le_antisymm h2' h1'
        rw [e, bytes_eq xs ys h]
theorem bytes_self : ∀ a, bytesCmp a a = 0
  | [] => rfl
  | x :: xs => by
    unfold bytesCmp
    rw [if_neg (UInt8.lt_irrefl _), if_neg (UInt8.lt_irrefl _)]
    exact bytes_self xs
theorem bytes_trans : ∀ a b c, bytesCmp a b ≤ 0 → bytesCmp b c ≤ 0 → bytesCmp a c ≤ 0 ∧ ((bytesCmp a b < 0 ∨ bytesCmp b c < 0) → bytesCmp a c < 0)
  | [], [], [], _, _ => ⟨by decide, fun h => by rcases h with h | h <;> cases h⟩
  | [], [], _ :: _, _, _ => ⟨by show (-1 : Int) ≤ 0; omega, fun _ => by show (-1 : Int) < 0; omega⟩
  | [], _ :: _, [], _, h => by have : (1 : Int) ≤ 0 := h; omega
  | [], _ :: _, _ :: _, _, _ => ⟨by show (-1 : Int) ≤ 0; omega, fun _ => by show (-1 : Int) < 0; omega⟩
  | _ :: _, [], _, h, _ => by have : (1 : Int) ≤ 0 := h; omega
  | _ :: _, _ :: _, [], _, h => by have : (1 : Int) ≤ 0 := h; omega
  | x :: xs, y :: ys, z :: zs, h1, h2 => by
    unfold bytesCmp at h1 h2 ⊢
    by_cases a1 : x < y
    · by_cases b1 : y < z
      · have c1 := UInt8.lt_trans a1 b1
        rw [if_pos c1]; exact ⟨by omega, fun _ => by omega⟩
      · rw [if_neg b1] at h2
        by_cases b2 : z < y
        · rw [if_pos b2] at h2; omega
        · have e : y = z := UInt8.le_antisymm (UInt8.not_lt.1 b2) (UInt8.not_lt.1 b1)
          subst e
          rw [if_pos a1]; exact ⟨by omega, fun _ => by omega⟩
    · rw [if_neg a1] at h1
      by_cases a2 : y < x
      · rw [if_pos a2] at h1; omega
      · have e : x = y := UInt8.le_antisymm (UInt8.not_lt.1 a2) (UInt8.not_lt.1 a1)
        subst e
        rw [if_neg a1] at h1
        rw [if_neg a1]
        by_cases b1 : x < z
        · rw [if_pos b1]; exact ⟨by omega, fun _ => by omega⟩
        · rw [if_neg b1] at h2 ⊢
          by_cases b2 : z < x
          · rw [if_pos b2] at h2; omega
          · rw [if_neg b2] at h2 ⊢
            rw [if_neg b1]
            simp only [if_neg a1, if_neg b1, if_neg b2]
            exact bytes_trans xs ys zs h1 h2
theorem int_sides (a b : Int) : Sides (intCmp a b) (intCmp b a) := by
  unfold intCmp
  by_cases h1 : a < b
  · rw [if_pos h1, if_neg (by omega), if_pos h1]; exact ⟨rfl, .inl rfl⟩
  · by_cases h2 : b < a
    · rw [if_neg h1, if_pos h2, if_pos h2]; exact ⟨rfl, .inr (.inr rfl)⟩
    · rw [if_neg h1, if_neg h2, if_neg h2, if_neg h1]; exact ⟨rfl, .inr (.inl rfl)⟩
theorem int_eq {a b : Int} : intCmp a b = 0 ↔ a = b := by
  unfold intCmp
  split
  · constructor
    · intro h; cases h
    · intro h; omega
  · split
    · constructor
      · intro h; cases h
      · intro h; omega
    · constructor
      · intro _; omega
      · intro _; rfl
theorem int_lt {a b : Int} : intCmp a b < 0 ↔ a < b := by
  unfold intCmp
  split
  · constructor
    · intro _; assumption
    · intro _; omega
  · split
    · constructor
      · intro h; omega
      · intro h; omega
    · constructor
      · intro h; omega
      · intro h; omega
theorem cell_kind {a b : CellD} (h : a.kind ≠ b.kind) : cellCmp a b = intCmp a.kind b.kind := by unfold cellCmp; rw [if_pos h]
theorem cell_n {a b : CellD} (h : a.kind = b.kind) (h2 : a.n ≠ b.n) : cellCmp a b = intCmp a.n b.n := by
  unfold cellCmp; rw [if_neg (fun e => e h), if_pos (fun e => h2 (int_eq.1 e))]
theorem cell_text {a b : CellD} (h : a.kind = b.kind) (h2 : a.n = b.n) : cellCmp a b = bytesCmp a.text.data.toList b.text.data.toList := by
  unfold cellCmp; rw [if_neg (fun e => e h), if_neg (fun e => e (int_eq.2 h2))]
theorem cell_sides (a b : CellD) : Sides (cellCmp a b) (cellCmp b a) := by
  by_cases h : a.kind = b.kind
  · by_cases h2 : a.n = b.n
    · rw [cell_text h h2, cell_text h.symm h2.symm]
      exact bytes_sides _ _
    · rw [cell_n h h2, cell_n h.symm (fun e => h2 e.symm)]
      exact int_sides _ _
  · rw [cell_kind h, cell_kind (fun e => h e.symm)]
    exact int_sides _ _
theorem data_eq {s t : ByteArray} (h : s.data.toList = t.data.toList) : s = t := by
  obtain ⟨⟨s⟩⟩ := s
  obtain ⟨⟨t⟩⟩ := t
  simp only at h
  rw [h]
theorem cell_eq {a b : CellD} : cellCmp a b = 0 ↔ a = b := by
  constructor
  · intro h
    unfold cellCmp at h
    split at h
    · rename_i hk; exact absurd (int_eq.1 h) hk
    · split at h
      · rename_i hn; exact absurd h hn
      · rename_i hk hn
        obtain ⟨k1, n1, t1⟩ := a
        obtain ⟨k2, n2, t2⟩ := b
        simp only [Decidable.not_not] at hk hn
        have e1 := hk
        have e2 := int_eq.1 hn
        have e3 := data_eq (bytes_eq _ _ h)
        simp only at e1 e2 e3
        subst e1 e2 e3
        rfl
  · rintro rfl
    unfold cellCmp
    rw [if_neg (by simp), if_neg (by simp [int_eq.2])]
    exact bytes_self _
theorem cell_trans (a b c : CellD) (h1 : cellCmp a b ≤ 0) (h2 : cellCmp b c ≤ 0) : cellCmp a c ≤ 0 ∧ ((cellCmp a b < 0 ∨ cellCmp b c < 0) → cellCmp a c < 0) := by
  have key : ∀ x y : CellD, cellCmp x y ≤ 0 ↔ (x.kind < y.kind ∨ (x.kind = y.kind ∧ (x.n < y.n ∨ (x.n = y.n ∧ bytesCmp x.text.data.toList y.text.data.toList ≤ 0)))) := by
    intro x y
    unfold cellCmp
    by_cases hk : x.kind = y.kind
    · rw [if_neg (by simp [hk])]
      by_cases hn : x.n = y.n
      · rw [if_neg (by simp [int_eq.2 hn])]; omega
      · rw [if_pos (fun e => hn (int_eq.1 e))]
        have i := int_sides x.n y.n
        have i1 := @int_lt x.n y.n
        have i2 := @int_eq x.n y.n
        omega
    · rw [if_pos hk]
      have i1 := @int_lt x.kind y.kind
      have i2 := @int_eq x.kind y.kind
      omega
  have keyl : ∀ x y : CellD, cellCmp x y < 0 ↔ (x.kind < y.kind ∨ (x.kind = y.kind ∧ (x.n < y.n ∨ (x.n = y.n ∧ bytesCmp x.text.data.toList y.text.data.toList < 0)))) := by
    intro x y
    unfold cellCmp
    by_cases hk : x.kind = y.kind
    · rw [if_neg (by simp [hk])]
      by_cases hn : x.n = y.n
      · rw [if_neg (by simp [int_eq.2 hn])]; omega
      · rw [if_pos (fun e => hn (int_eq.1 e))]
        have i1 := @int_lt x.n y.n
        have i2 := @int_eq x.n y.n
        omega
    · rw [if_pos hk]
      have i1 := @int_lt x.kind y.kind
      have i2 := @int_eq x.kind y.kind
      omega
  have ht := bytes_trans a.text.data.toList b.text.data.toList c.text.data.toList
  rw [key] at h1 h2 ⊢
  rw [keyl, keyl, keyl]
  generalize bytesCmp a.text.data.toList b.text.data.toList = p at *
  generalize bytesCmp b.text.data.toList c.text.data.toList = q at *
  generalize bytesCmp a.text.data.toList c.text.data.toList = r at *
  by_cases hp : p ≤ 0
  · by_cases hq : q ≤ 0
    · have := ht hp hq
      omega
    · omega
  · omega
theorem term_sides : ∀ a b, Sides (termCmp a b) (termCmp b a)
  | [], [] => ⟨rfl, .inr (.inl rfl)⟩
  | [], _ :: _ => ⟨rfl, .inr (.inl rfl)⟩
  | _ :: _, [] => ⟨rfl, .inr (.inl rfl)⟩
  | x :: xs, y :: ys => by
    unfold termCmp
    by_cases h : x = y
    · rw [if_neg (by simp [cell_eq.2 h]), if_neg (by simp [cell_eq.2 h.symm])]
      exact term_sides xs ys
    · rw [if_pos (fun e => h (cell_eq.1 e)), if_pos (fun e => h (cell_eq.1 e).symm)]
      exact cell_sides x y
theorem good_whole : ∀ (l m : List CellD) (o : Int), Good l o → Good m o → termCmp l m = 0 → l = m
  | [], [], _, _, _, _ => rfl
  | [], b :: m, o, g, k, _ => by have g0 : o = 0 := g; obtain ⟨_, k2, _⟩ := k; omega
  | a :: l, [], o, g, k, _ => by have g0 : o = 0 := k; obtain ⟨_, k2, _⟩ := g; omega
  | a :: l, b :: m, o, g, k, h => by
    unfold termCmp at h
    split at h
    · rename_i hc; exact absurd h hc
    · rename_i hc
      have e := cell_eq.1 (by simpa using hc)
      subst e
      rw [good_whole l m _ g.2.2 k.2.2 h]
theorem term_trans : ∀ (a b c : List CellD) (o : Int), Good a o → Good b o → Good c o → termCmp a b ≤ 0 → termCmp b c ≤ 0 → termCmp a c ≤ 0
  | [], _, _, _, _, _, _, _, _ => by unfold termCmp; exact Int.le_refl _
  | _ :: _, _, [], _, _, _, _, _, _ => by unfold termCmp; exact Int.le_refl _
  | a :: l, [], _, o, g, k, _, _, _ => by have g0 : o = 0 := k; obtain ⟨_, k2, _⟩ := g; omega
  | a :: l, b :: m, c :: n, o, g, k, j, h1, h2 => by
    unfold termCmp at h1 h2 ⊢
    have t := cell_trans a b c
    by_cases e1 : a = b
    · subst e1
      rw [if_neg (by simp [cell_eq.2])] at h1
      by_cases e2 : a = c
      · subst e2
        rw [if_neg (by simp [cell_eq.2])] at h2 ⊢
        exact term_trans l m n _ g.2.2 k.2.2 j.2.2 h1 h2
      · rw [if_pos (fun e => e2 (cell_eq.1 e))] at h2 ⊢
        exact h2
    · rw [if_pos (fun e => e1 (cell_eq.1 e))] at h1
      by_cases e2 : b = c
      · subst e2
        rw [if_pos (fun e => e1 (cell_eq.1 e))]
        exact h1
      · rw [if_pos (fun e => e2 (cell_eq.1 e))] at h2
        have t2 := t h1 h2
        have hlt : cellCmp a b < 0 := by
          rcases Int.lt_or_eq_of_le h1 with h | h
          · exact h
          · exact absurd (cell_eq.1 h) e1
        have := t2.2 (.inl hlt)
        rw [if_pos (by omega)]
        omega
end Go.Proofs.YtefpolgflimlgaaDoor.Tm
