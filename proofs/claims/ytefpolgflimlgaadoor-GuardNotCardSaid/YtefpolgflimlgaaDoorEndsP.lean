/- What a right term is: each place's term ends within it; one cell more, or less, and it is none. Plain lists. -/
import Derived.Test.YtefpolgflimlgaaDoorTerm
namespace Go.Proofs.YtefpolgflimlgaaDoor.Tm
set_option linter.unusedVariables false
set_option linter.unusedSimpArgs false

def Good : List CellD → Int → Prop
  | [], o => o = 0
  | c :: l, o => cellE c = 0 ∧ 0 < o ∧ Good l (o - 1 + kidsD c)
theorem good_of_right : ∀ (l : List CellD) (i : Nat) (o : Int), 0 ≤ o → (rightL l i o).1 = 0 → Good l o
  | [], i, o, h, e => by
    unfold rightL at e
    split at e
    · cases e
    · show o = 0; omega
  | c :: l, i, o, h, e => by
    unfold rightL at e
    split at e
    · rename_i hc; exact absurd e hc
    · split at e
      · cases e
      · rename_i h1 h2
        refine ⟨by omega, by omega, good_of_right l (i + 1) _ (by omega) e⟩
theorem right_more_one : ∀ (l : List CellD) (c : CellD) (i : Nat) (o : Int), Good l o → cellE c = 0 → rightL (l ++ [c]) i o = (63, ((i + l.length : Nat) : Int))
  | [], c, i, o, g, hc => by
    have g0 : o = 0 := g
    show rightL [c] i o = _
    unfold rightL
    rw [if_neg (by omega), if_pos g0]
    simp
  | a :: l, c, i, o, g, hc => by
    obtain ⟨g1, g2, g3⟩ := g
    show rightL (a :: (l ++ [c])) i o = _
    unfold rightL
    rw [if_neg (by omega), if_neg (by omega), right_more_one l c (i + 1) _ g3 hc]
    simp; omega
theorem right_less_one : ∀ (l : List CellD) (i : Nat) (o : Int), Good l o → l ≠ [] → rightL (l.take (l.length - 1)) i o = (62, ((i + (l.length - 1) : Nat) : Int))
  | [], i, o, g, h => absurd rfl h
  | [a], i, o, g, h => by
    obtain ⟨g1, g2, g3⟩ := g
    show rightL [] i o = _
    unfold rightL
    rw [if_pos g2]
    simp
  | a :: b :: l, i, o, g, h => by
    obtain ⟨g1, g2, g3⟩ := g
    show rightL (a :: (b :: l).take ((b :: l).length - 1)) i o = _
    unfold rightL
    rw [if_neg (by omega), if_neg (by omega), right_less_one (b :: l) (i + 1) _ g3 (by simp)]
    simp; omega
theorem end_good : ∀ (l : List CellD) (i : Nat) (p o : Int), Good l o → 1 ≤ p → p ≤ o → ∃ m : Nat, endL l i p = ((m : Int), 0) ∧ i < m ∧ m ≤ i + l.length ∧ (p = o → m = i + l.length)
  | [], i, p, o, g, h1, h2 => by have g0 : o = 0 := g; omega
  | c :: l, i, p, o, g, h1, h2 => by
    obtain ⟨g1, g2, g3⟩ := g
    unfold endL
    by_cases hp : p - 1 + kidsD c = 0
    · rw [if_pos hp]
      refine ⟨i + 1, by simp, by omega, by simp, fun e => ?_⟩
      subst e
      cases l with
      | nil => rfl
      | cons d l =>
        obtain ⟨_, k2, _⟩ := g3
        omega
    · rw [if_neg hp]
      obtain ⟨m, e1, e2, e3, e4⟩ := end_good l (i + 1) (p - 1 + kidsD c) _ g3 (by omega) (by omega)
      exact ⟨m, e1, by omega, by simp; omega, fun e => by simp; have := e4 (by omega); omega⟩
theorem good_drop : ∀ (l : List CellD) (j : Nat) (o : Int), Good l o → ∃ o', Good (l.drop j) o' ∧ (j = 0 → o' = o)
  | l, 0, o, g => ⟨o, g, fun _ => rfl⟩
  | [], j + 1, o, g => ⟨o, by simpa using g, fun h => by omega⟩
  | c :: l, j + 1, o, g => by
    obtain ⟨_, _, g3⟩ := g
    obtain ⟨o', h, _⟩ := good_drop l j _ g3
    exact ⟨o', h, fun h => by omega⟩
theorem good_pos {l : List CellD} {o : Int} (g : Good l o) (h : l ≠ []) : 0 < o := by
  cases l with
  | nil => exact absurd rfl h
  | cons c l => exact g.2.1
theorem rightE_ok {l : List CellD} (h : (rightE l).1 = 0) : Good l 1 ∧ l.length ≠ 0 ∧ l.length ≤ 1024 := by
  unfold rightE at h
  split at h
  · cases h
  · split at h
    · cases h
    · exact ⟨good_of_right l 0 1 (by omega) h, by omega, by omega⟩
theorem endE_of_right {l : List CellD} (h : (rightE l).1 = 0) {j : Nat} (hj : j < l.length) : ∃ m : Nat, endE l j = ((m : Int), 0) ∧ j < m ∧ m ≤ l.length ∧ (j = 0 → m = l.length) := by
  obtain ⟨g, _, _⟩ := rightE_ok h
  obtain ⟨o, g', h0⟩ := good_drop l j 1 g
  have hp := good_pos g' (by intro e; have := congrArg List.length e; simp at this; omega)
  obtain ⟨m, e1, e2, e3, e4⟩ := end_good (l.drop j) j 1 o g' (by omega) (by omega)
  refine ⟨m, ?_, e2, by simp at e3; omega, fun e => ?_⟩
  · rw [endE, if_neg (by omega), Int.toNat_natCast]; exact e1
  · subst e
    have := e4 (h0 rfl).symm
    simp at this; omega
theorem rightE_more {l : List CellD} (h : (rightE l).1 = 0) {c : CellD} (hl : l.length + 1 ≤ 1024) (hc : cellE c = 0) : rightE (l ++ [c]) = (63, (l.length : Int)) := by
  obtain ⟨g, h0, h1⟩ := rightE_ok h
  rw [rightE, if_neg (by simp), if_neg (by simp; omega), right_more_one l c 0 1 g hc]
  simp
theorem rightE_less {l : List CellD} (h : (rightE l).1 = 0) : rightE (l.take (l.length - 1)) = if l.length = 1 then (5, 0) else (62, (l.length : Int) - 1) := by
  obtain ⟨g, h0, h1⟩ := rightE_ok h
  by_cases e : l.length = 1
  · rw [if_pos e, rightE, if_pos (by simp [e])]
  · rw [if_neg e, rightE, if_neg (by simp; omega), if_neg (by simp; omega), right_less_one l 0 1 g (by intro e'; subst e'; simp at h0)]
    simp; omega
end Go.Proofs.YtefpolgflimlgaaDoor.Tm
