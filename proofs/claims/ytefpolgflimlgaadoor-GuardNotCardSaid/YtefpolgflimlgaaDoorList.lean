/- The loops of Right and End, as laws of their specs. Plain lists. -/
import Derived.Test.YtefpolgflimlgaaDoorTerm
namespace Go.Proofs.YtefpolgflimlgaaDoor.Tm
set_option linter.unusedVariables false
set_option linter.unusedSimpArgs false

theorem right_bad {l : List CellD} {j : Nat} {o : Int} (h : j < l.length) (e : cellE l[j] ≠ 0) : rightL (l.drop j) j o = (cellE l[j], (j : Int)) := by
  rw [List.drop_eq_getElem_cons h, rightL, if_pos e]
theorem right_more {l : List CellD} {j : Nat} {o : Int} (h : j < l.length) (e : cellE l[j] = 0) (ho : o = 0) : rightL (l.drop j) j o = (63, (j : Int)) := by
  rw [List.drop_eq_getElem_cons h, rightL, if_neg (by simp [e]), if_pos ho]
theorem right_next {l : List CellD} {j : Nat} {o : Int} (h : j < l.length) (e : cellE l[j] = 0) (ho : o ≠ 0) : rightL (l.drop j) j o = rightL (l.drop (j + 1)) (j + 1) (o - 1 + kidsD l[j]) := by
  rw [List.drop_eq_getElem_cons h, rightL, if_neg (by simp [e]), if_neg ho]
theorem right_short {l : List CellD} {j : Nat} {o : Int} (h : l.length ≤ j) (ho : 0 < o) : rightL (l.drop j) j o = (62, (j : Int)) := by
  rw [List.drop_eq_nil_of_le h, rightL, if_pos ho]
theorem right_done {l : List CellD} {j : Nat} {o : Int} (h : l.length ≤ j) (ho : ¬ 0 < o) : rightL (l.drop j) j o = (0, 0) := by
  rw [List.drop_eq_nil_of_le h, rightL, if_neg ho]
theorem end_done {l : List CellD} {j : Nat} {o : Int} (h : j < l.length) (ho : o - 1 + kidsD l[j] = 0) : endL (l.drop j) j o = ((j : Int) + 1, 0) := by
  rw [List.drop_eq_getElem_cons h, endL, if_pos ho]
theorem end_next {l : List CellD} {j : Nat} {o : Int} (h : j < l.length) (ho : ¬ o - 1 + kidsD l[j] = 0) : endL (l.drop j) j o = endL (l.drop (j + 1)) (j + 1) (o - 1 + kidsD l[j]) := by
  rw [List.drop_eq_getElem_cons h, endL, if_neg ho]
theorem end_short {l : List CellD} {j : Nat} {o : Int} (h : l.length ≤ j) : endL (l.drop j) j o = (0, 62) := by
  rw [List.drop_eq_nil_of_le h, endL]
end Go.Proofs.YtefpolgflimlgaaDoor.Tm
