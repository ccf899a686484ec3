/- More tests: what a guard, itself turned about and twice, and two guards together say. Plain lists. -/
import Derived.Test.YtefpolgflimlgaaDoorGHolds
namespace Go.Proofs.YtefpolgflimlgaaDoor.Tm
set_option linter.unusedVariables false
set_option linter.unusedSimpArgs false

theorem guard_le {g : List TestD} (h : g.length ≤ 16) : guardE g = if g.all testB then 0 else 90 := by rw [guardE, if_neg (by omega)]
theorem all_twice (p : TestD → Bool) (g : List TestD) : (g.reverse ++ g).all p = g.all p := by
  rw [List.all_append, List.all_reverse, Bool.and_self]
theorem holds_back {g : List TestD} {x : List (List CellD)} (h : g.length ≤ 8) : holdsE (g.reverse ++ g) x = holdsE g x := by
  have e : guardE (g.reverse ++ g) = guardE g := by
    rw [guard_le (by simp; omega), guard_le (by omega), all_twice]
  unfold holdsE
  rw [e, all_twice]
theorem holds_both_bad {g h : List TestD} {x : List (List CellD)} (hg : g.length ≤ 8) (hh : h.length ≤ 8) (k : (holdsE g x).2 ≠ 0 ∨ (holdsE h x).2 ≠ 0) : (holdsE (g ++ h) x).2 ≠ 0 := by
  unfold holdsE at k ⊢
  rw [guard_le (g := g) (by omega)] at k
  rw [guard_le (g := h) (by omega)] at k
  rw [guard_le (g := g ++ h) (by simp; omega), List.all_append]
  cases e1 : g.all testB <;> cases e2 : h.all testB <;> simp [e1, e2] at k ⊢
  by_cases l : 16 < x.length
  · simp [l]
  · rw [if_neg l, if_neg l] at k
    rw [if_neg l]
    by_cases r : regsE x = 0
    · simp [r] at k
    · simp [r]
theorem holds_both {g h : List TestD} {x : List (List CellD)} (hg : g.length ≤ 8) (hh : h.length ≤ 8) (k : (holdsE g x).2 = 0) (k2 : (holdsE h x).2 = 0) : holdsE (g ++ h) x = ((holdsE g x).1 && (holdsE h x).1, 0) := by
  unfold holdsE at k k2 ⊢
  rw [guard_le (g := g) (by omega)] at k ⊢
  rw [guard_le (g := h) (by omega)] at k2 ⊢
  rw [guard_le (g := g ++ h) (by simp; omega), List.all_append]
  cases e1 : g.all testB <;> cases e2 : h.all testB <;> simp [e1, e2] at k k2 ⊢
  by_cases l : 16 < x.length
  · simp [l] at k
  · rw [if_neg l] at k
    rw [if_neg l, if_neg l, if_neg l]
    by_cases r : regsE x = 0
    · simp [r, List.all_append]
    · simp [r] at k
theorem holds_none : holdsE [] [] = (true, 0) := rfl
theorem rev_take {g : List TestD} {k : Nat} (h : k < g.length) : g.reverse.take (k + 1) = g.reverse.take k ++ [g[g.length - 1 - k]] := by
  rw [List.take_succ_eq_append_getElem (by simpa using h), List.getElem_reverse]
theorem rev_take_at {g : List TestD} {k j : Nat} (h : k < g.length) (hj : j = g.length - 1 - k) (hl : j < g.length) : g.reverse.take (k + 1) = g.reverse.take k ++ [g[j]] := by
  subst hj; exact rev_take h
theorem FineT.take {g : List TestD} (h : FineT g) (n : Nat) : FineT (g.take n) :=
  ⟨by have := h.len; have := List.length_take_le n g; have := List.length_take_le' n g; omega, fun j hj => by rw [List.getElem_take]; exact h.text j _⟩
theorem FineT.app {g h : List TestD} (a : FineT g) (b : FineT h) (l : (g ++ h).length * 72 ≤ 140737488351232) : FineT (g ++ h) :=
  ⟨l, fun j hj => by
    by_cases e : j < g.length
    · rw [List.getElem_append_left e]; exact a.text j e
    · rw [List.getElem_append_right (by omega)]; exact b.text _ _⟩
theorem FineT.rev {g : List TestD} (a : FineT g) : FineT g.reverse := ⟨by simpa using a.len, fun j hj => by rw [List.getElem_reverse]; exact a.text _ _⟩
theorem FineT.nil : FineT [] := ⟨by simp, fun j h => absurd h (Nat.not_lt_zero j)⟩
end Go.Proofs.YtefpolgflimlgaaDoor.Tm
