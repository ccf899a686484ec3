/- Cells of terms as plain data: what a right term is. Plain lists; no program in sight. -/
import Derived.WalkKit
namespace Go.Proofs.YtefpolgflimlgaaDoor.Tm
set_option linter.unusedVariables false
set_option linter.unusedSimpArgs false

/-- A cell of a term. -/
structure CellD where
  kind : Int
  n : Int
  text : ByteArray
deriving DecidableEq

def CellD.vals (c : CellD) : List Value := [.int .i64 c.kind, .int .i64 c.n, .string c.text]
def encs (l : List CellD) : List Value := l.flatMap CellD.vals
theorem encs_length (l : List CellD) : (encs l).length = l.length * 3 := by
  unfold encs
  induction l with
  | nil => rfl
  | cons a l ih => simp [CellD.vals] at ih ⊢; omega
theorem encs_append (a b : List CellD) : encs (a ++ b) = encs a ++ encs b := by simp [encs]
theorem encs_one (l : List CellD) : ∀ v ∈ encs l, v.oneCell' = true := by
  intro v hv
  simp only [encs, List.mem_flatMap] at hv
  obtain ⟨c, _, hv⟩ := hv
  simp [CellD.vals] at hv
  rcases hv with rfl | rfl | rfl <;> rfl
theorem encs_at (l : List CellD) : ∀ j (h : j < l.length), (encs l)[j * 3]? = some (.int .i64 (l[j]).kind) ∧ (encs l)[j * 3 + 1]? = some (.int .i64 (l[j]).n) ∧ (encs l)[j * 3 + 2]? = some (.string (l[j]).text) := by
  induction l with
  | nil => intro j h; simp at h
  | cons a l ih =>
    intro j h
    have e : encs (a :: l) = .int .i64 a.kind :: .int .i64 a.n :: .string a.text :: encs l := rfl
    rw [e]
    cases j with
    | zero => exact ⟨rfl, rfl, rfl⟩
    | succ j =>
      have := ih j (by simpa using h)
      refine ⟨?_, ?_, ?_⟩
      · rw [show (j + 1) * 3 = j * 3 + 1 + 1 + 1 by omega]; simpa using this.1
      · rw [show (j + 1) * 3 + 1 = j * 3 + 1 + 1 + 1 + 1 by omega]; simpa using this.2.1
      · rw [show (j + 1) * 3 + 2 = j * 3 + 2 + 1 + 1 + 1 by omega]; simpa using this.2.2

/-- How many terms follow a cell. -/
def kidsD (c : CellD) : Nat := if c.kind = 7 then 2 else if c.kind = 5 ∧ 0 ≤ c.n ∧ c.n ≤ 255 then c.n.toNat else 0
theorem kidsD_le (c : CellD) : kidsD c ≤ 255 := by unfold kidsD; repeat (first | split | omega)

/-- Right UTF-8 from a place on: no place tells a broken byte. -/
def badAt (s : ByteArray) (i : Nat) : Bool := decide ((Utf8.decode s i).1 = 65533 ∧ (Utf8.decode s i).2 = 1)
def okFrom (s : ByteArray) (i : Nat) : Bool :=
  if i < s.size then (if badAt s i = true then false else okFrom s (i + max 1 (Utf8.decode s i).2)) else true
termination_by s.size - i
def utf8B (s : ByteArray) : Bool := okFrom s 0

/-- What is wrong of a cell alone. -/
def cellE (c : CellD) : Int :=
  if c.kind < 1 ∨ 8 < c.kind then 3
  else if ¬ (c.kind = 2 ∨ c.kind = 8) ∧ c.text.size ≠ 0 then 3
  else if (c.kind = 2 ∨ c.kind = 6 ∨ c.kind = 7 ∨ c.kind = 8) ∧ c.n ≠ 0 then 3
  else if c.kind = 3 then (if c.n < 1 ∨ 281474976710656 < c.n then 1 else 0)
  else if c.kind = 4 then (if c.n < 1 ∨ 1099511627776 < c.n then 1 else 0)
  else if c.kind = 5 then (if c.n < 0 ∨ 255 < c.n then 1 else 0)
  else if c.kind = 2 then (if 255 < c.text.size ∨ utf8B c.text = false then 20 else 0)
  else if c.kind = 8 then (if 1024 < c.text.size then 4 else 0)
  else 0

/-- The loop of Right. -/
def rightL : List CellD → Nat → Int → Int × Int
  | [], i, o => if o > 0 then (62, i) else (0, 0)
  | c :: l, i, o => if cellE c ≠ 0 then (cellE c, i) else if o = 0 then (63, i) else rightL l (i + 1) (o - 1 + kidsD c)
def rightE (l : List CellD) : Int × Int := if l.length = 0 then (5, 0) else if 1024 < l.length then (7, 0) else rightL l 0 1
/-- The loop of End. -/
def endL : List CellD → Nat → Int → Int × Int
  | [], _, _ => (0, 62)
  | c :: l, i, o => if o - 1 + kidsD c = 0 then (i + 1, 0) else endL l (i + 1) (o - 1 + kidsD c)
def endE (l : List CellD) (at_ : Int) : Int × Int := if at_ < 0 ∨ (l.length : Int) ≤ at_ then (0, 1) else endL (l.drop at_.toNat) at_.toNat 1
end Go.Proofs.YtefpolgflimlgaaDoor.Tm
