/- The elements of a list, over plain lists; the reference's Elems. -/
import Derived.Test.YtfeaolnklooanaaDoorPIter
namespace Go.Proofs.YtfeaolnklooanaaDoor.Tm
open Go.RowKit
set_option linter.unusedVariables false
set_option linter.unusedSimpArgs false

def elemsL : Nat → List CellD → List (List CellD) × Bool
  | 0, _ => ([], false)
  | _ + 1, [] => ([], false)
  | f + 1, c :: l => if c.kind = 7 then (l.take (spanK l 1) :: (elemsL f (skipK l 1)).1, (elemsL f (skipK l 1)).2) else ([], decide (c.kind = 6))
def elemsE (t : List CellD) : List (List CellD) × Int :=
  if (rightE t).1 ≠ 0 then ([], (rightE t).1) else if (elemsL t.length t).2 = true then ((elemsL t.length t).1, 0) else ([], 3)
theorem el_bad {t : List CellD} (h : (rightE t).1 ≠ 0) : elemsE t = ([], (rightE t).1) := by rw [elemsE, if_pos h]
theorem el_no {t : List CellD} (h : (rightE t).1 = 0) (k : (elemsL t.length t).2 = false) : elemsE t = ([], 3) := by rw [elemsE, if_neg (by simp [h]), if_neg (by simp [k])]
theorem el_yes {t : List CellD} (h : (rightE t).1 = 0) (k : (elemsL t.length t).2 = true) : elemsE t = ((elemsL t.length t).1, 0) := by rw [elemsE, if_neg (by simp [h]), if_pos k]
theorem span_all {l : List CellD} (h : Wf l 1) : l.take (spanK l 1) = l := by
  have hs := h.skip (k := 1) (by omega)
  have h0 : skipK l 1 = [] := by
    cases e : skipK l 1 with
    | nil => rfl
    | cons c m => rw [e] at hs; have := hs.1; omega
  unfold skipK at h0
  rw [List.drop_eq_nil_iff] at h0
  exact List.take_of_length_le h0
theorem kids7 {c : CellD} (h : c.kind = 7) : kidsD c = 2 := by rw [kidsD, if_pos h]
/-- One cons, over plain lists. -/
theorem el_step {c : CellD} {l : List CellD} (h : c.kind = 7) (hg : Good (c :: l) 1) (hl : (c :: l).length ≤ 1024) :
    partsE (c :: l) = [l.take (spanK l 1), skipK l 1] ∧ Good (skipK l 1) 1 ∧ (skipK l 1).length ≤ l.length ∧ 0 < spanK l 1 := by
  have hg2 : Good l 2 := by have := hg.2.2; rw [kids7 h] at this; simpa using this
  have hs := good_skip l 2 1 hg2 (by omega)
  have hs1 : Good (skipK l 1) 1 := by simpa using hs
  refine ⟨?_, hs1, by unfold skipK; rw [List.length_drop]; omega, ?_⟩
  · rw [partsE, kids7 h, partsK, partsK, partsK, span_all hs1.wf]
  · have hne := hg2.wf.ne (by omega)
    cases l with
    | nil => exact absurd rfl hne
    | cons d m => rw [spanK]; omega
theorem elemsL_len : ∀ (f : Nat) (l : List CellD), (elemsL f l).1.length ≤ f
  | 0, l => by simp [elemsL]
  | f + 1, [] => by simp [elemsL]
  | f + 1, c :: l => by
    rw [elemsL]
    split
    · simpa using elemsL_len f _
    · simp
theorem elemsL_small : ∀ (f : Nat) (l : List CellD), ∀ p ∈ (elemsL f l).1, p.length ≤ l.length
  | 0, l, p, h => by simp [elemsL] at h
  | f + 1, [], p, h => by simp [elemsL] at h
  | f + 1, c :: l, p, h => by
    rw [elemsL] at h
    split at h
    · rcases List.mem_cons.1 h with rfl | h
      · rw [List.length_take, List.length_cons]; omega
      · have := elemsL_small f _ p h
        unfold skipK at this
        rw [List.length_drop] at this
        rw [List.length_cons]; omega
    · simp at h
end Go.Proofs.YtfeaolnklooanaaDoor.Tm
