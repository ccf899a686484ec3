/- A first cell and terms behind it: what joined makes. Plain lists. -/
import Derived.Test.YtefpolgflimlgaaDoorTerm
namespace Go.Proofs.YtefpolgflimlgaaDoor.Tm
set_option linter.unusedVariables false
set_option linter.unusedSimpArgs false

def sumL (k : Nat) : List (List CellD) → Nat
  | [] => 0
  | t :: ls => k + t.length + sumL k ls
theorem sumL_append (k : Nat) : ∀ a b : List (List CellD), sumL k (a ++ b) = sumL k a + sumL k b
  | [], b => by simp [sumL]
  | t :: a, b => by simp [sumL, sumL_append k a b]; omega
theorem sumL_take {k j : Nat} {ls : List (List CellD)} (h : j < ls.length) : sumL k (ls.take (j + 1)) = sumL k (ls.take j) + (k + ls[j].length) := by
  rw [List.take_succ_eq_append_getElem h, sumL_append]
  simp [sumL]
theorem sumL_le {k j : Nat} (ls : List (List CellD)) : sumL k (ls.take j) ≤ sumL k ls := by
  have := sumL_append k (ls.take j) (ls.drop j)
  rw [List.take_append_drop] at this
  omega
def joinL (each : List CellD) (ls : List (List CellD)) : List CellD := ls.flatMap (each ++ ·)
theorem joinL_take {each : List CellD} {j : Nat} {ls : List (List CellD)} (h : j < ls.length) : joinL each (ls.take (j + 1)) = joinL each (ls.take j) ++ (each ++ ls[j]) := by
  unfold joinL
  rw [List.take_succ_eq_append_getElem h]
  simp only [List.flatMap_append, List.flatMap_cons, List.flatMap_nil, List.append_nil]
theorem joinL_length (each : List CellD) : ∀ ls : List (List CellD), (joinL each ls).length = sumL each.length ls
  | [] => rfl
  | t :: ls => by
    have := joinL_length each ls
    simp [joinL, sumL] at this ⊢
    omega
def joinE (first each last : List CellD) (ls : List (List CellD)) : List CellD × Int :=
  if 1024 < first.length + last.length + sumL each.length ls then ([], 7) else (first ++ joinL each ls ++ last, 0)
end Go.Proofs.YtefpolgflimlgaaDoor.Tm
