/- The order as plain law: two right terms. -/
import Derived.Test.YtfeaolnklooanaaDoorMid
import Derived.Test.YtfeaolnklooanaaDoorBase
namespace Go.Proofs.YtfeaolnklooanaaDoor.Tm
open Go.RowKit
set_option linter.unusedVariables false
set_option linter.unusedSimpArgs false

theorem wrong2 {l m : List CellD} : wrongE [l, m] = 0 ↔ (rightE l).1 = 0 ∧ (rightE m).1 = 0 := by
  unfold wrongE
  split
  · rename_i h; exact ⟨fun e => absurd e h, fun e => absurd e.1 h⟩
  · rename_i h
    unfold wrongE
    split
    · rename_i k; exact ⟨fun e => absurd e k, fun e => absurd e.2 k⟩
    · rename_i k
      simp only [wrongE]
      exact ⟨fun _ => ⟨by simpa using h, by simpa using k⟩, fun _ => trivial⟩
theorem compare_ok {l m : List CellD} (h : (rightE l).1 = 0) (k : (rightE m).1 = 0) : compareE l m = (termCmp l m, 0) := by
  rw [compareE, if_neg (by simp [wrong2.2 ⟨h, k⟩])]
theorem compare_err {l m : List CellD} (h : ¬ ((rightE l).1 = 0 ∧ (rightE m).1 = 0)) : (compareE l m).2 ≠ 0 := by
  have h' : wrongE [l, m] ≠ 0 := fun e => h (wrong2.1 e)
  rw [compareE, if_pos h']; exact h'
theorem term_zero {l m : List CellD} (h : (rightE l).1 = 0) (k : (rightE m).1 = 0) : termCmp l m = 0 ↔ l = m := by
  constructor
  · exact good_whole l m 1 (rightE_ok h).1 (rightE_ok k).1
  · rintro rfl
    have s := term_sides l l
    have t := s.turn
    omega
/-- The statement of the order, of three right terms. -/
theorem order_law {a b c : List CellD} (ha : (rightE a).1 = 0) (hb : (rightE b).1 = 0) (hc : (rightE c).1 = 0) :
    ¬ (termCmp a b ≤ 0 ∧ termCmp b c ≤ 0 ∧ 0 < termCmp a c) ∧ ¬ (0 ≤ termCmp a b ∧ 0 ≤ termCmp b c ∧ termCmp a c < 0) := by
  have ga := (rightE_ok ha).1
  have gb := (rightE_ok hb).1
  have gc := (rightE_ok hc).1
  have t1 := term_trans a b c 1 ga gb gc
  have t2 := term_trans c b a 1 gc gb ga
  have s1 := (term_sides a b).turn
  have s2 := (term_sides b c).turn
  have s3 := (term_sides a c).turn
  constructor
  · rintro ⟨h1, h2, h3⟩; have := t1 h1 h2; omega
  · rintro ⟨h1, h2, h3⟩; have := t2 (by omega) (by omega); omega
end Go.Proofs.YtfeaolnklooanaaDoor.Tm
