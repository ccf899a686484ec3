/- Slices of slices of cells in memory. -/
import Derived.Test.YtefpolgflimlgaaDoorReads
import Derived.Handy
namespace Go.Proofs.YtefpolgflimlgaaDoor.Tm
open Go.RowKit
set_option linter.unusedVariables false
set_option linter.unusedSimpArgs false

/-- What bounds a list of cells that came in or was made. -/
structure Fine (l : List CellD) : Prop where
  len : l.length * 32 ≤ 140737488351232
  text : ∀ j (h : j < l.length), (l[j]).text.size ≤ 9223372036854775807
def Fine2 (ls : List (List CellD)) : Prop := ∀ j (h : j < ls.length), Fine ls[j]
theorem Fine.lim {l : List CellD} (h : Fine l) : l.length ≤ 1000000000000000 := by have := h.len; omega
theorem Fine.nil : Fine [] := ⟨by simp, fun j h => absurd h (Nat.not_lt_zero j)⟩
theorem Fine2.drop {ls : List (List CellD)} (h : Fine2 ls) (k : Nat) : Fine2 (ls.drop k) := fun j hj => by
  rw [List.getElem_drop]; exact h _ _
theorem Fine2.tail {l : List CellD} {ls : List (List CellD)} (h : Fine2 (l :: ls)) : Fine2 ls := fun j hj => by
  have := h (j + 1) (by simpa using hj)
  rwa [List.getElem_cons_succ] at this
theorem Fine2.head {l : List CellD} {ls : List (List CellD)} (h : Fine2 (l :: ls)) : Fine l := h 0 (by simp)
theorem Fine2.nil : Fine2 [] := fun j h => absurd h (Nat.not_lt_zero j)
theorem Fine2.cons {l : List CellD} {ls : List (List CellD)} (h : Fine l) (k : Fine2 ls) : Fine2 (l :: ls) := fun j hj => by
  cases j with
  | zero => exact h
  | succ j =>
    rw [List.getElem_cons_succ]
    exact k j (by simpa using hj)

/-- A cell that holds a slice of cells. -/
def SlAt (w : World) (b o : Nat) (l : List CellD) : Prop := ∃ A c, w.cell? ⟨b, o, none⟩ = some (.slice A l.length c) ∧ l.length ≤ c ∧ Reads w A l
def Reads2 (w : World) (A : Option Addr) (ls : List (List CellD)) : Prop := ∀ j (h : j < ls.length), ∃ b o, A = some ⟨b, o, none⟩ ∧ SlAt w b (o + j) ls[j]
theorem SlAt.below {w W : World} {b o : Nat} {l : List CellD} (h : SlAt w b o l) (hB : Below w.heap.size w W) : SlAt W b o l := by
  obtain ⟨A, c, h0, h1, h2⟩ := h
  exact ⟨A, c, cell_below hB h0, h1, h2.below hB⟩
theorem Reads2.below {w W : World} {A : Option Addr} {ls : List (List CellD)} (h : Reads2 w A ls) (hB : Below w.heap.size w W) : Reads2 W A ls := fun j hj => by
  obtain ⟨b, o, e, hc⟩ := h j hj
  exact ⟨b, o, e, hc.below hB⟩
theorem Reads2.drewN {w : World} {A : Option Addr} {ls : List (List CellD)} (h : Reads2 w A ls) (n : Nat) : Reads2 (w.drewN n) A ls := h
theorem Reads2.nil (w : World) (A : Option Addr) : Reads2 w A [] := fun j hj => absurd hj (Nat.not_lt_zero j)
theorem Reads2.take {w : World} {A : Option Addr} {ls : List (List CellD)} (h : Reads2 w A ls) (m : Nat) : Reads2 w A (ls.take m) := fun j hj => by
  obtain ⟨b, o, e, hc⟩ := h j (by simp at hj; omega)
  exact ⟨b, o, e, by rw [List.getElem_take]; exact hc⟩
theorem Reads2.drop {w : World} {b o : Nat} {ls : List (List CellD)} (h : Reads2 w (some ⟨b, o, none⟩) ls) (m : Nat) : Reads2 w (some ⟨b, o + m, none⟩) (ls.drop m) := fun j hj => by
  obtain ⟨b', o', e, hc⟩ := h (m + j) (by simp at hj; omega)
  obtain ⟨rfl, rfl⟩ : b = b' ∧ o = o' := by simpa using e
  refine ⟨b, o + m, rfl, ?_⟩
  rw [List.getElem_drop]
  have e2 : o + m + j = o + (m + j) := by omega
  rw [e2]; exact hc
theorem Reads2.one {w : World} {b : Nat} {l : List CellD} (h : SlAt w b 0 l) : Reads2 w (some ⟨b, 0, none⟩) [l] := fun j hj => by
  have : j = 0 := by simpa using hj
  subst this
  exact ⟨b, 0, rfl, by simpa using h⟩
theorem Reads2.two {w : World} {b : Nat} {l m : List CellD} (h : SlAt w b 0 l) (k : SlAt w b 1 m) : Reads2 w (some ⟨b, 0, none⟩) [l, m] := fun j hj => by
  have : j = 0 ∨ j = 1 := by simp at hj; omega
  rcases this with rfl | rfl
  · exact ⟨b, 0, rfl, by simpa using h⟩
  · exact ⟨b, 0, rfl, by simpa using k⟩
theorem slAt_new2 {w : World} {A B : Option Addr} {c d : Nat} {l m : List CellD} {t : TypeId} (hr : Reads w A l) (hl : l.length ≤ c) (hr2 : Reads w B m) (hm : m.length ≤ d) :
    Reads2 (w.alloc (.cells #[.slice A l.length c, .slice B m.length d] t)) (some ⟨w.heap.size, 0, none⟩) [l, m] :=
  Reads2.two ⟨A, c, by go_cell, hl, hr.below (below_one _ _)⟩ ⟨B, d, by go_cell, hm, hr2.below (below_one _ _)⟩
theorem slAt_new1 {w : World} {A : Option Addr} {c : Nat} {l : List CellD} {t : TypeId} (hr : Reads w A l) (hl : l.length ≤ c) :
    Reads2 (w.alloc (.cells #[.slice A l.length c] t)) (some ⟨w.heap.size, 0, none⟩) [l] :=
  Reads2.one ⟨A, c, by go_cell, hl, hr.below (below_one _ _)⟩

theorem reads_block {w : World} {g : Nat} {cs : Array Value} {t : TypeId} {l : List CellD} (h : w.heap[g]? = some (.cells cs t (0, 0))) (hc : cs.toList = encs l) : Reads w (some ⟨g, 0, none⟩) l := fun j hj => by
  obtain ⟨e0, e1, e2⟩ := encs_at l j hj
  rw [← hc, Array.getElem?_toList] at e0 e1 e2
  refine ⟨g, 0, rfl, ?_, ?_, ?_⟩ <;> rw [Nat.zero_add]
  · simp [World.cell?, h, e0]
  · simp [World.cell?, h, e1]
  · simp [World.cell?, h, e2]
theorem reads_new (w : World) {cs : Array Value} {t : TypeId} {l : List CellD} (hc : cs.toList = encs l) : Reads (w.alloc (.cells cs t)) (some ⟨w.heap.size, 0, none⟩) l := reads_block (heap_new w _) hc

/-! what is wrong of the first that is not right -/
def wrongE : List (List CellD) → Int
  | [] => 0
  | l :: ls => if (rightE l).1 ≠ 0 then (rightE l).1 else wrongE ls
theorem wrong_bad {ls : List (List CellD)} {j : Nat} (h : j < ls.length) (e : (rightE ls[j]).1 ≠ 0) : wrongE (ls.drop j) = (rightE ls[j]).1 := by
  rw [List.drop_eq_getElem_cons h, wrongE, if_pos e]
theorem wrong_next {ls : List (List CellD)} {j : Nat} (h : j < ls.length) (e : (rightE ls[j]).1 = 0) : wrongE (ls.drop j) = wrongE (ls.drop (j + 1)) := by
  rw [List.drop_eq_getElem_cons h, wrongE, if_neg (by simp [e])]
theorem wrong_done {ls : List (List CellD)} {j : Nat} (h : ls.length ≤ j) : wrongE (ls.drop j) = 0 := by
  rw [List.drop_eq_nil_of_le h, wrongE]
theorem wrong_ok {ls : List (List CellD)} : wrongE ls = 0 ↔ ∀ j (h : j < ls.length), (rightE ls[j]).1 = 0 := by
  induction ls with
  | nil => exact ⟨fun _ j h => absurd h (Nat.not_lt_zero j), fun _ => rfl⟩
  | cons l ls ih =>
    unfold wrongE
    by_cases h : (rightE l).1 = 0
    · rw [if_neg (by simp [h]), ih]
      constructor
      · intro k j hj
        cases j with
        | zero => exact h
        | succ j => exact k j (by simpa using hj)
      · intro k j hj
        exact k (j + 1) (by simpa using hj)
    · rw [if_pos h]
      constructor
      · intro k; exact absurd k h
      · intro k; exact absurd (k 0 (by simp)) h
end Go.Proofs.YtefpolgflimlgaaDoor.Tm
