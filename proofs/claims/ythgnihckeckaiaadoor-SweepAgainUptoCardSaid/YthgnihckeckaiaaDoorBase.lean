/- Base: several texts in one. -/
import Derived.Test.YthgnihckeckaiaaDoorRows
import Derived.Test.YthgnihckeckaiaaDoorShelf
import Derived.WalkKit
import Derived.Lib.Hide
import Derived.Below
import Derived.Deep.QuietTactic
import Derived.Maps.AppendAt
import Derived.Deep.AppendLies
import Derived.RegionTactic
import Derived.OwnWalk
import Derived.Handy
import Derived.BigQuiet
import Derived.WalkSmall
import Derived.Lib.DecodeN
import Derived.Laws.BitsLemmas
import Derived.Lib.OthersKept
import Derived.Deep.LoopGhost
/- Cells of terms as plain data: what a right term is. Plain lists; no program in sight. -/
namespace Go.Proofs.YthgnihckeckaiaaDoor.Tm
set_option linter.unusedVariables false
set_option linter.unusedSimpArgs false

/-- A cell of a term. -/
structure CellD where
  kind : Int
  n : Int
  text : ByteArray
deriving DecidableEq

def CellD.vals (c : CellD) : List Value := [.int .i64 c.kind, .int .i64 c.n, .string c.text]
def encs (l : List CellD) : List Value := l.flatMap CellD.vals
theorem encs_length (l : List CellD) : (encs l).length = l.length * 3 := by
  unfold encs
  induction l with
  | nil => rfl
  | cons a l ih => simp [CellD.vals] at ih ⊢; omega
theorem encs_append (a b : List CellD) : encs (a ++ b) = encs a ++ encs b := by simp [encs]
theorem encs_one (l : List CellD) : ∀ v ∈ encs l, v.oneCell' = true := by
  intro v hv
  simp only [encs, List.mem_flatMap] at hv
  obtain ⟨c, _, hv⟩ := hv
  simp [CellD.vals] at hv
  rcases hv with rfl | rfl | rfl <;> rfl
theorem encs_at (l : List CellD) : ∀ j (h : j < l.length), (encs l)[j * 3]? = some (.int .i64 (l[j]).kind) ∧ (encs l)[j * 3 + 1]? = some (.int .i64 (l[j]).n) ∧ (encs l)[j * 3 + 2]? = some (.string (l[j]).text) := by
  induction l with
  | nil => intro j h; simp at h
  | cons a l ih =>
    intro j h
    have e : encs (a :: l) = .int .i64 a.kind :: .int .i64 a.n :: .string a.text :: encs l := rfl
    rw [e]
    cases j with
    | zero => exact ⟨rfl, rfl, rfl⟩
    | succ j =>
      have := ih j (by simpa using h)
      refine ⟨?_, ?_, ?_⟩
      · rw [show (j + 1) * 3 = j * 3 + 1 + 1 + 1 by omega]; simpa using this.1
      · rw [show (j + 1) * 3 + 1 = j * 3 + 1 + 1 + 1 + 1 by omega]; simpa using this.2.1
      · rw [show (j + 1) * 3 + 2 = j * 3 + 2 + 1 + 1 + 1 by omega]; simpa using this.2.2

/-- How many terms follow a cell. -/
def kidsD (c : CellD) : Nat := if c.kind = 7 then 2 else if c.kind = 5 ∧ 0 ≤ c.n ∧ c.n ≤ 255 then c.n.toNat else 0
theorem kidsD_le (c : CellD) : kidsD c ≤ 255 := by unfold kidsD; repeat (first | split | omega)

/-- Right UTF-8 from a place on: no place tells a broken byte. -/
def badAt (s : ByteArray) (i : Nat) : Bool := decide ((Utf8.decode s i).1 = 65533 ∧ (Utf8.decode s i).2 = 1)
def okFrom (s : ByteArray) (i : Nat) : Bool :=
  if i < s.size then (if badAt s i = true then false else okFrom s (i + max 1 (Utf8.decode s i).2)) else true
termination_by s.size - i
def utf8B (s : ByteArray) : Bool := okFrom s 0

/-- What is wrong of a cell alone. -/
def cellE (c : CellD) : Int :=
  if c.kind < 1 ∨ 8 < c.kind then 3
  else if ¬ (c.kind = 2 ∨ c.kind = 8) ∧ c.text.size ≠ 0 then 3
  else if (c.kind = 2 ∨ c.kind = 6 ∨ c.kind = 7 ∨ c.kind = 8) ∧ c.n ≠ 0 then 3
  else if c.kind = 3 then (if c.n < 1 ∨ 281474976710656 < c.n then 1 else 0)
  else if c.kind = 4 then (if c.n < 1 ∨ 1099511627776 < c.n then 1 else 0)
  else if c.kind = 5 then (if c.n < 0 ∨ 255 < c.n then 1 else 0)
  else if c.kind = 2 then (if 255 < c.text.size ∨ utf8B c.text = false then 20 else 0)
  else if c.kind = 8 then (if 1024 < c.text.size then 4 else 0)
  else 0

/-- The loop of Right. -/
def rightL : List CellD → Nat → Int → Int × Int
  | [], i, o => if o > 0 then (62, i) else (0, 0)
  | c :: l, i, o => if cellE c ≠ 0 then (cellE c, i) else if o = 0 then (63, i) else rightL l (i + 1) (o - 1 + kidsD c)
def rightE (l : List CellD) : Int × Int := if l.length = 0 then (5, 0) else if 1024 < l.length then (7, 0) else rightL l 0 1
/-- The loop of End. -/
def endL : List CellD → Nat → Int → Int × Int
  | [], _, _ => (0, 62)
  | c :: l, i, o => if o - 1 + kidsD c = 0 then (i + 1, 0) else endL l (i + 1) (o - 1 + kidsD c)
def endE (l : List CellD) (at_ : Int) : Int × Int := if at_ < 0 ∨ (l.length : Int) ≤ at_ then (0, 1) else endL (l.drop at_.toNat) at_.toNat 1
end Go.Proofs.YthgnihckeckaiaaDoor.Tm
/- What a right term is: each place's term ends within it; one cell more, or less, and it is none. Plain lists. -/
namespace Go.Proofs.YthgnihckeckaiaaDoor.Tm
set_option linter.unusedVariables false
set_option linter.unusedSimpArgs false

def Good : List CellD → Int → Prop
  | [], o => o = 0
  | c :: l, o => cellE c = 0 ∧ 0 < o ∧ Good l (o - 1 + kidsD c)
theorem good_of_right : ∀ (l : List CellD) (i : Nat) (o : Int), 0 ≤ o → (rightL l i o).1 = 0 → Good l o
  | [], i, o, h, e => by
    unfold rightL at e
    split at e
    · cases e
    · show o = 0; omega
  | c :: l, i, o, h, e => by
    unfold rightL at e
    split at e
    · rename_i hc; exact absurd e hc
    · split at e
      · cases e
      · rename_i h1 h2
        refine ⟨by omega, by omega, good_of_right l (i + 1) _ (by omega) e⟩
theorem right_more_one : ∀ (l : List CellD) (c : CellD) (i : Nat) (o : Int), Good l o → cellE c = 0 → rightL (l ++ [c]) i o = (63, ((i + l.length : Nat) : Int))
  | [], c, i, o, g, hc => by
    have g0 : o = 0 := g
    show rightL [c] i o = _
    unfold rightL
    rw [if_neg (by omega), if_pos g0]
    simp
  | a :: l, c, i, o, g, hc => by
    obtain ⟨g1, g2, g3⟩ := g
    show rightL (a :: (l ++ [c])) i o = _
    unfold rightL
    rw [if_neg (by omega), if_neg (by omega), right_more_one l c (i + 1) _ g3 hc]
    simp; omega
theorem right_less_one : ∀ (l : List CellD) (i : Nat) (o : Int), Good l o → l ≠ [] → rightL (l.take (l.length - 1)) i o = (62, ((i + (l.length - 1) : Nat) : Int))
  | [], i, o, g, h => absurd rfl h
  | [a], i, o, g, h => by
    obtain ⟨g1, g2, g3⟩ := g
    show rightL [] i o = _
    unfold rightL
    rw [if_pos g2]
    simp
  | a :: b :: l, i, o, g, h => by
    obtain ⟨g1, g2, g3⟩ := g
    show rightL (a :: (b :: l).take ((b :: l).length - 1)) i o = _
    unfold rightL
    rw [if_neg (by omega), if_neg (by omega), right_less_one (b :: l) (i + 1) _ g3 (by simp)]
    simp; omega
theorem end_good : ∀ (l : List CellD) (i : Nat) (p o : Int), Good l o → 1 ≤ p → p ≤ o → ∃ m : Nat, endL l i p = ((m : Int), 0) ∧ i < m ∧ m ≤ i + l.length ∧ (p = o → m = i + l.length)
  | [], i, p, o, g, h1, h2 => by have g0 : o = 0 := g; omega
  | c :: l, i, p, o, g, h1, h2 => by
    obtain ⟨g1, g2, g3⟩ := g
    unfold endL
    by_cases hp : p - 1 + kidsD c = 0
    · rw [if_pos hp]
      refine ⟨i + 1, by simp, by omega, by simp, fun e => ?_⟩
      subst e
      cases l with
      | nil => rfl
      | cons d l =>
        obtain ⟨_, k2, _⟩ := g3
        omega
    · rw [if_neg hp]
      obtain ⟨m, e1, e2, e3, e4⟩ := end_good l (i + 1) (p - 1 + kidsD c) _ g3 (by omega) (by omega)
      exact ⟨m, e1, by omega, by simp; omega, fun e => by simp; have := e4 (by omega); omega⟩
theorem good_drop : ∀ (l : List CellD) (j : Nat) (o : Int), Good l o → ∃ o', Good (l.drop j) o' ∧ (j = 0 → o' = o)
  | l, 0, o, g => ⟨o, g, fun _ => rfl⟩
  | [], j + 1, o, g => ⟨o, by simpa using g, fun h => by omega⟩
  | c :: l, j + 1, o, g => by
    obtain ⟨_, _, g3⟩ := g
    obtain ⟨o', h, _⟩ := good_drop l j _ g3
    exact ⟨o', h, fun h => by omega⟩
theorem good_pos {l : List CellD} {o : Int} (g : Good l o) (h : l ≠ []) : 0 < o := by
  cases l with
  | nil => exact absurd rfl h
  | cons c l => exact g.2.1
theorem rightE_ok {l : List CellD} (h : (rightE l).1 = 0) : Good l 1 ∧ l.length ≠ 0 ∧ l.length ≤ 1024 := by
  unfold rightE at h
  split at h
  · cases h
  · split at h
    · cases h
    · exact ⟨good_of_right l 0 1 (by omega) h, by omega, by omega⟩
theorem endE_of_right {l : List CellD} (h : (rightE l).1 = 0) {j : Nat} (hj : j < l.length) : ∃ m : Nat, endE l j = ((m : Int), 0) ∧ j < m ∧ m ≤ l.length ∧ (j = 0 → m = l.length) := by
  obtain ⟨g, _, _⟩ := rightE_ok h
  obtain ⟨o, g', h0⟩ := good_drop l j 1 g
  have hp := good_pos g' (by intro e; have := congrArg List.length e; simp at this; omega)
  obtain ⟨m, e1, e2, e3, e4⟩ := end_good (l.drop j) j 1 o g' (by omega) (by omega)
  refine ⟨m, ?_, e2, by simp at e3; omega, fun e => ?_⟩
  · rw [endE, if_neg (by omega), Int.toNat_natCast]; exact e1
  · subst e
    have := e4 (h0 rfl).symm
    simp at this; omega
theorem rightE_more {l : List CellD} (h : (rightE l).1 = 0) {c : CellD} (hl : l.length + 1 ≤ 1024) (hc : cellE c = 0) : rightE (l ++ [c]) = (63, (l.length : Int)) := by
  obtain ⟨g, h0, h1⟩ := rightE_ok h
  rw [rightE, if_neg (by simp), if_neg (by simp; omega), right_more_one l c 0 1 g hc]
  simp
theorem rightE_less {l : List CellD} (h : (rightE l).1 = 0) : rightE (l.take (l.length - 1)) = if l.length = 1 then (5, 0) else (62, (l.length : Int) - 1) := by
  obtain ⟨g, h0, h1⟩ := rightE_ok h
  by_cases e : l.length = 1
  · rw [if_pos e, rightE, if_pos (by simp [e])]
  · rw [if_neg e, rightE, if_neg (by simp; omega), if_neg (by simp; omega), right_less_one l 0 1 g (by intro e'; subst e'; simp at h0)]
    simp; omega
end Go.Proofs.YthgnihckeckaiaaDoor.Tm
/- Cells of terms in memory: a slice that reads as a list of cells; a row of the call's own; frames. -/
namespace Go.Proofs.YthgnihckeckaiaaDoor.Tm
open Go.RowKit
set_option linter.unusedVariables false
set_option linter.unusedSimpArgs false

/-! frames -/
theorem grown_below {a b : World} (h : Below a.heap.size a b) (row : Option Nat) : a.grownBy b row := ⟨h.os, h.tape, h.output, h.size, fun i hi _ => h.block i hi⟩
theorem grown_trans {a b c : World} {row : Option Nat} (h : a.grownBy b row) (k : b.grownBy c row) : a.grownBy c row :=
  ⟨k.os.trans h.os, k.tape.trans h.tape, k.output.trans h.output, Nat.le_trans h.size k.size, fun i hi hr => (k.block i (Nat.lt_of_lt_of_le hi h.size) hr).trans (h.block i hi hr)⟩
theorem grown_setCell (w : World) (c i : Nat) (v : Value) : w.grownBy (w.setCell ⟨c, i, none⟩ v) (some c) :=
  ⟨rfl, rfl, rfl, by simp [World.setCell], fun k _ hk => Below.heap_setCell _ _ _ _ (fun e => hk (by rw [e]))⟩
theorem below_alloc' {w W : World} (h : Below w.heap.size w W) (o : Obj) : Below w.heap.size w (W.alloc o) := h.alloc h.size o
theorem below_one (w : World) (o : Obj) : Below w.heap.size w (w.alloc o) := (Below.refl _ w).alloc (Nat.le_refl _) o
theorem below_then {w W V : World} (h : Below w.heap.size w W) (k : Below W.heap.size W V) : Below w.heap.size w V := h.trans (k.mono h.size)
theorem heap_new (w : World) (o : Obj) : (w.alloc o).heap[w.heap.size]? = some o := by show (w.heap.push o)[_]? = _; simp
theorem heap_setCell_self {w : World} {b i : Nat} {a : Array Value} {t : TypeId} {fr : Nat × Nat} {v : Value} (h : w.heap[b]? = some (.cells a t fr)) : (w.setCell ⟨b, i, none⟩ v).heap[b]? = some (.cells (a.setIfInBounds i v) t fr) := by
  have hlt := lt_of_block h
  have h' : w.heap[b] = .cells a t fr := by simpa [Array.getElem?_eq_getElem hlt] using h
  show (w.heap.modify b _)[b]? = _
  rw [Array.getElem?_eq_getElem (by simpa using hlt), Array.getElem_modify_self, h']
  rfl
theorem cell_lt {w : World} {a : Addr} {v : Value} (h : w.cell? a = some v) : a.block < w.heap.size := World.block_lt_of_cell? w a h
theorem cell_below {w W : World} (h : Below w.heap.size w W) {a : Addr} {v : Value} (hc : w.cell? a = some v) : W.cell? a = some v := (h.cell (cell_lt hc)).trans hc

/-! a slice that reads as cells -/
/-- The j-th cell at an address. -/
def CellAt (w : World) (b o : Nat) (c : CellD) : Prop :=
  w.cell? ⟨b, o, none⟩ = some (.int .i64 c.kind) ∧ w.cell? ⟨b, o + 1, none⟩ = some (.int .i64 c.n) ∧ w.cell? ⟨b, o + 2, none⟩ = some (.string c.text)
def Reads (w : World) (A : Option Addr) (l : List CellD) : Prop := ∀ j (h : j < l.length), ∃ b o, A = some ⟨b, o, none⟩ ∧ CellAt w b (o + j * 3) l[j]
theorem CellAt.below {w W : World} {b o : Nat} {c : CellD} (h : CellAt w b o c) (hB : Below w.heap.size w W) : CellAt W b o c := ⟨cell_below hB h.1, cell_below hB h.2.1, cell_below hB h.2.2⟩
theorem Reads.below {w W : World} {A : Option Addr} {l : List CellD} (h : Reads w A l) (hB : Below w.heap.size w W) : Reads W A l := fun j hj => by
  obtain ⟨b, o, e, hc⟩ := h j hj
  exact ⟨b, o, e, hc.below hB⟩
theorem Reads.drewN {w : World} {A : Option Addr} {l : List CellD} (h : Reads w A l) (n : Nat) : Reads (w.drewN n) A l := h
theorem Reads.nil (w : World) (A : Option Addr) : Reads w A [] := fun j hj => absurd hj (Nat.not_lt_zero j)
theorem cell_of_same {w W : World} {a : Addr} (h : W.heap[a.block]? = w.heap[a.block]?) : W.cell? a = w.cell? a := World.cell?_of_block (w := w) h
theorem Reads.kept {w W : World} {A : Option Addr} {l : List CellD} {row : Option Nat} (h : Reads w A l) (hg : w.grownBy W row) (hne : ∀ b o, A = some ⟨b, o, none⟩ → row ≠ some b) : Reads W A l := fun j hj => by
  obtain ⟨b, o, e, hc⟩ := h j hj
  have hb : W.heap[b]? = w.heap[b]? := hg.block b (cell_lt hc.1) (fun e' => hne b o e e'.symm)
  exact ⟨b, o, e, (cell_of_same (a := ⟨b, _, none⟩) hb).trans hc.1, (cell_of_same (a := ⟨b, _, none⟩) hb).trans hc.2.1, (cell_of_same (a := ⟨b, _, none⟩) hb).trans hc.2.2⟩
theorem Reads.take {w : World} {A : Option Addr} {l : List CellD} (h : Reads w A l) (m : Nat) : Reads w A (l.take m) := fun j hj => by
  obtain ⟨b, o, e, hc⟩ := h j (by simp at hj; omega)
  exact ⟨b, o, e, by rw [List.getElem_take]; exact hc⟩
theorem Reads.drop {w : World} {b o : Nat} {l : List CellD} (h : Reads w (some ⟨b, o, none⟩) l) (m : Nat) : Reads w (some ⟨b, o + m * 3, none⟩) (l.drop m) := fun j hj => by
  obtain ⟨b', o', e, hc⟩ := h (m + j) (by simp at hj; omega)
  obtain ⟨rfl, rfl⟩ : b = b' ∧ o = o' := by simpa using e
  refine ⟨b, o + m * 3, rfl, ?_⟩
  rw [List.getElem_drop]
  have e2 : o + m * 3 + j * 3 = o + (m + j) * 3 := by omega
  rw [e2]; exact hc
/-- What a row of the call's own holds reads as its cells. -/
theorem Reads.of_row {w : World} {base cap : Nat} {A : Option Addr} {e : TypeId} {l : List CellD} (h : w.ownsRow base e 3 (.slice A l.length cap) l.length (encs l)) : Reads w A l := by
  intro j hj
  rcases h.2 with ⟨h', h0⟩ | ⟨g, cap', cur, h', _⟩
  · omega
  · obtain ⟨rfl, rfl⟩ : A = some ⟨g, 0, none⟩ ∧ cap = cap' := by simpa using h'
    obtain ⟨e0, e1, e2⟩ := encs_at l j hj
    refine ⟨g, 0, rfl, ?_, ?_, ?_⟩
    · rw [Nat.zero_add, h.cellAt _ (by omega)]; exact e0
    · rw [Nat.zero_add, h.cellAt _ (by omega)]; exact e1
    · rw [Nat.zero_add, h.cellAt _ (by omega)]; exact e2
/-- The flat cells behind an address, as append and copy ask them. -/
theorem Reads.flat {w : World} {b o : Nat} {l : List CellD} (h : Reads w (some ⟨b, o, none⟩) l) : ∀ j u, (encs l)[j]? = some u → w.cell? ((⟨b, o, none⟩ : Addr).add j) = some u := by
  intro j u hj
  have hlt : j < (encs l).length := (List.getElem?_eq_some_iff.1 hj).1
  rw [encs_length] at hlt
  have e : ((⟨b, o, none⟩ : Addr).add j) = ⟨b, o + j, none⟩ := by unfold Addr.add; split <;> simp_all
  rw [e]
  obtain ⟨b', o', e', hc⟩ := h (j / 3) (by omega)
  obtain ⟨rfl, rfl⟩ : b = b' ∧ o = o' := by simpa using e'
  obtain ⟨e0, e1, e2⟩ := encs_at l (j / 3) (by omega)
  have hm : j % 3 = 0 ∨ j % 3 = 1 ∨ j % 3 = 2 := by omega
  rcases hm with hm | hm | hm
  · have ej : j = j / 3 * 3 := by omega
    rw [ej] at hj
    rw [ej, hc.1, ← hj, e0]
  · have ej : j = j / 3 * 3 + 1 := by omega
    rw [ej] at hj
    have e3 : o + j = o + j / 3 * 3 + 1 := by omega
    rw [e3, hc.2.1, ← hj, e1]
  · have ej : j = j / 3 * 3 + 2 := by omega
    rw [ej] at hj
    have e3 : o + j = o + j / 3 * 3 + 2 := by omega
    rw [e3, hc.2.2, ← hj, e2]
theorem row_slice {w : World} {base n : Nat} {e : TypeId} {size : Nat} {v : Value} {xs : List Value} (h : w.ownsRow base e size v n xs) : ∃ A c, v = .slice A n c := by
  rcases h.2 with ⟨rfl, rfl⟩ | ⟨g, cap, cur, rfl, _⟩
  · exact ⟨none, 0, rfl⟩
  · exact ⟨_, cap, rfl⟩
theorem row_below {w w1 : World} {base n : Nat} {e : TypeId} {size : Nat} {v : Value} {xs : List Value} (h : w.ownsRow base e size v n xs) (hB : Below w.heap.size w w1) : w1.ownsRow base e size v n xs :=
  h.kept (grown_below hB none) (by cases v.ownBlock <;> simp)
theorem row_base {w : World} {base n : Nat} {e : TypeId} {size : Nat} {v : Value} {xs : List Value} (h : w.ownsRow base e size v n xs) (k : Nat) (hk : v.ownBlock = some k) : base ≤ k := by
  rcases h.2 with ⟨rfl, _⟩ | ⟨g, cap, cur, rfl, hb, _⟩
  · simp [Value.ownBlock] at hk
  · have : g = k := by simpa [Value.ownBlock] using hk
    omega
theorem row_lt {w : World} {base n : Nat} {e : TypeId} {size : Nat} {v : Value} {xs : List Value} (h : w.ownsRow base e size v n xs) (k : Nat) (hk : v.ownBlock = some k) : k < w.heap.size := by
  rcases h.2 with ⟨rfl, _⟩ | ⟨g, cap, cur, rfl, hb, hh, _⟩
  · simp [Value.ownBlock] at hk
  · have : g = k := by simpa [Value.ownBlock] using hk
    subst this
    exact lt_of_block hh
theorem row_mono {w : World} {base base' n : Nat} {e : TypeId} {size : Nat} {v : Value} {xs : List Value} (h : w.ownsRow base e size v n xs) (hb : base' ≤ base) : w.ownsRow base' e size v n xs :=
  ⟨h.1, h.2.imp id (fun ⟨g, cap, cur, a, b, r⟩ => ⟨g, cap, cur, a, by omega, r⟩)⟩
theorem row_nil (W : World) (base : Nat) (e : TypeId) (size : Nat) : W.ownsRow base e size (.slice none 0 0) 0 [] := ⟨by simp, .inl ⟨rfl, rfl⟩⟩
theorem row_cap {w : World} {base n cap : Nat} {e : TypeId} {size : Nat} {A : Option Addr} {xs : List Value} (h : w.ownsRow base e size (.slice A n cap) n xs) : n ≤ cap := by
  rcases h.2 with ⟨h', rfl⟩ | ⟨g, cap', cur, h', _, _, hc, _⟩
  · omega
  · obtain ⟨_, rfl⟩ : A = some ⟨g, 0, none⟩ ∧ cap = cap' := by simpa using h'
    exact hc
theorem ret_int {k : IntKind} {a b : Int} (h : a = b) : Ending.returned (.int k a) = .returned (.int k b) := by rw [h]
theorem ret_ii {a b c d : Int} (h : a = c) (h2 : b = d) : Ending.returned (.tuple #[.int .i64 a, .int .i64 b]) = .returned (.tuple #[.int .i64 c, .int .i64 d]) := by rw [h, h2]
end Go.Proofs.YthgnihckeckaiaaDoor.Tm
/- append onto a row of the call's own, of cells that came in: nil, empty or not. -/
namespace Go.Proofs.YthgnihckeckaiaaDoor.Tm
open Go.RowKit
set_option linter.unusedVariables false
set_option linter.unusedSimpArgs false

/-- What append takes its new elements from. -/
structure Src (w : World) (size : Nat) (A : Option Addr) (m : Nat) (news : List Value) : Prop where
  len : news.length = m * size
  nil : A = none → m = 0
  at_ : ∀ ad, A = some ad → ∀ j u, news[j]? = some u → w.cell? (ad.add j) = some u
  one : ∀ u ∈ news, u.oneCell' = true
theorem Src.of_reads {w : World} {A : Option Addr} {l : List CellD} (h : Reads w A l) : Src w 3 A l.length (encs l) := by
  refine ⟨encs_length l, fun e => ?_, fun ad e j u hj => ?_, encs_one l⟩
  · rcases Nat.eq_zero_or_pos l.length with h0 | h0
    · exact h0
    · obtain ⟨b, o, e', _⟩ := h 0 h0
      rw [e] at e'; cases e'
  · have hlt := (List.getElem?_eq_some_iff.1 hj).1
    rw [encs_length] at hlt
    obtain ⟨b, o, e', _⟩ := h 0 (by omega)
    subst e'
    cases e
    exact h.flat j u hj
theorem Src.of_one {w : World} {b o : Nat} {c : CellD} (h : CellAt w b o c) : Src w 3 (some ⟨b, o, none⟩) 1 (encs [c]) :=
  Src.of_reads (l := [c]) fun j hj => by
    have : j = 0 := by simpa using hj
    subst this
    exact ⟨b, o, rfl, by simpa using h⟩

section
variable {P : Program} (w : World)
theorem run_app_nil (base : Nat) (t ty e : TypeId) (i : TypeInfo) (size : Nat) (ht : P.underlying t = some (.slice e)) (hi : P.info? e = some i)
    (v : Value) (n : Nat) (xs : List Value) (hown : w.ownsRow base e size v n xs) (c : Nat) : (Builtin.append_ #[t, t] ty #[v, .slice none 0 c]).run P w = .ok v w := by
  rcases hown.2 with ⟨rfl, rfl⟩ | ⟨g, cap, cur, rfl, _, _, hnc, _⟩
  · simp [Builtin.append_, run_underlying ht, sizeOf, typeInfo, hi, Builtin.lenOf, Builtin.firstCells]
  · simp [Builtin.append_, run_underlying ht, sizeOf, typeInfo, hi, Builtin.lenOf, Builtin.firstCells, hnc, storeCells]
theorem run_app (base : Nat) (t ty e : TypeId) (i : TypeInfo) (z : Value) (size bytes : Nat) (ht : P.underlying t = some (.slice e)) (hi : P.info? e = some i) (hz : i.zero = some z)
    (hsize : i.size = size) (hby : i.bytes = bytes) (hzs : z.cells.size = size) (hsz : 0 < size)
    (v : Value) (n : Nat) (xs : List Value) (hown : w.ownsRow base e size v n xs) (A : Option Addr) (m c : Nat) (news : List Value) (hr : Src w size A m news)
    (h63 : n + m ≤ maxLen) (hbytes : (n + m) * bytes ≤ 140737488355328) (hbase : base ≤ w.heap.size) :
    ∃ v' w', (Builtin.append_ #[t, t] ty #[v, .slice A m c]).run P w = .ok v' w' ∧ w'.ownsRow base e size v' (n + m) (xs ++ news) ∧ w.grownBy w' v.ownBlock ∧
      (v'.ownBlock = v.ownBlock ∨ v'.ownBlock = some w.heap.size) := by
  rcases A with _ | ad
  · have hm := hr.nil rfl
    subst hm
    have hn : news = [] := List.eq_nil_of_length_eq_zero (by simpa using hr.len)
    subst hn
    exact ⟨v, w, run_app_nil w base t ty e i size ht hi v n xs hown c, by simpa using hown, World.grownBy.refl w _, .inl rfl⟩
  · obtain ⟨v', w', hrun, h2, h3, _, h5⟩ := run_append_own_at (P := P) w base t ty e i z size bytes ht hi hz hsize hby hzs hsz v n xs hown ad m c news hr.len (hr.at_ ad rfl) hr.one h63 hbytes hbase
    exact ⟨v', w', hrun, h2, h3, h5⟩
theorem wpList_app {ops : Array Oper} {rest : List Oper} {o : Oper} {a : Act} {Q : Exit → Act → World → Prop} (hgd : o.guard = none) (s x : Operand) (t : TypeId)
    (ho : o.op = .call { callee := .builtin .append, args := #[s, x], argTypes := #[t, t] })
    (base : Nat) (e : TypeId) (i : TypeInfo) (z : Value) (size bytes : Nat) (ht : P.underlying t = some (.slice e)) (hi : P.info? e = some i) (hz : i.zero = some z)
    (hsize : i.size = size) (hby : i.bytes = bytes) (hzs : z.cells.size = size) (hsz : 0 < size)
    (v : Value) (n : Nat) (xs : List Value) (hs : a.eval s = v) (hown : w.ownsRow base e size v n xs)
    (A : Option Addr) (m c : Nat) (news : List Value) (hx : a.eval x = .slice A m c) (hr : Src w size A m news)
    (h63 : n + m ≤ maxLen) (hbytes : (n + m) * bytes ≤ 140737488355328) (hbase : base ≤ w.heap.size)
    (h : ∀ v' w', w'.ownsRow base e size v' (n + m) (xs ++ news) → w.grownBy w' v.ownBlock → (v'.ownBlock = v.ownBlock ∨ v'.ownBlock = some w.heap.size) → wpList P ops Q rest (a.put o.dst v') w') : wpList P ops Q (o :: rest) a w :=
  wpList_plain hgd fun _ hK => by
    obtain ⟨v', w', hrun, h2, h3, h4⟩ := run_app (P := P) w base t o.type e i z size bytes ht hi hz hsize hby hzs hsz v n xs hown A m c news hr h63 hbytes hbase
    unfold Oper.wp execOp
    simp only [ho, resolve, invoke, builtin, Sem.run_bind, Sem.run_pure, Result.andThen_ok, List.map_toArray, List.map_cons, List.map_nil, hs, hx, hrun]
    exact hK _ _ (h v' w' h2 h3 h4)
end
end Go.Proofs.YthgnihckeckaiaaDoor.Tm
/- The document's Same: are two lists of cells alike? -/
namespace Go.Proofs.YthgnihckeckaiaaDoor.Tm
open Go.RowKit
set_option linter.unusedVariables false
set_option linter.unusedSimpArgs false

set_option maxHeartbeats 2000000 in
theorem rsame_any (A B : Option Addr) (c1 c2 : Nat) (xs ys : List CellD) (w : World) (hx : Reads w A xs) (hy : Reads w B ys) (hm : xs.length ≤ 1000000000000000) (hm2 : ys.length ≤ 1000000000000000) :
    Calls Tryd.prog 25 #[.slice A xs.length c1, .slice B ys.length c2] w fun e w' => e = .returned (.bool (decide (xs = ys))) ∧ Below w.heap.size w w' := by
  by_cases hl : xs.length = ys.length
  · have hb : ((xs.length : Int) != (ys.length : Int)) = false := by rw [bne_eq_false_iff_eq]; omega
    have HX := Lib.hid hx
    have HY := Lib.hid hy
    have HL := Lib.hid hl
    have hle1 : xs.length ≤ ys.length := by omega
    have hle2 : ys.length ≤ xs.length := by omega
    clear hx hy hl
    go_enter Tryd.func25, Tryd.ntmps25
    go_wp2_with fail
    go_loopw [5] (fun i wr => ∃ k : Nat, k ≤ xs.length ∧ i = .int .i64 k ∧ Below w.heap.size w wr ∧ Hid (∀ j (h1 : j < xs.length) (h2 : j < ys.length), j < k → xs[j] = ys[j])) (fun i wr => xs.length - (intOf i).toNat)
    case atStart => exact ⟨0, by omega, rfl, Below.refl _ _, fun j _ _ h => absurd h (Nat.not_lt_zero j)⟩
    case round =>
      obtain ⟨k, hk, rfl, hB, hsame⟩ := hrel
      by_cases hlt : k < xs.length
      · have hlt2 : k < ys.length := by omega
        obtain ⟨g1, o1, hA, c1'⟩ := HX.out k hlt
        obtain ⟨g2, o2, hBa, c2'⟩ := HY.out k hlt2
        subst hA hBa
        obtain ⟨d0, d1, d2⟩ := c1'.below hB
        obtain ⟨e0, e1, e2⟩ := c2'.below hB
        have hi1 : (k : Int) < (xs.length : Int) := by omega
        have hi2 : (k : Int) < (ys.length : Int) := by omega
        clear c1' c2'
        by_cases he : xs[k] = ys[k]
        · have HE := Lib.hid he
          rw [he] at d0 d1 d2
          clear he
          go_wp2
          go_quiet (fail)
          go_wp2
          go_roundw
          case rel => exact ⟨k + 1, by omega, by go_num, below_drewN hB _, fun j h1 h2 h3 => by
            rcases Nat.lt_succ_iff_lt_or_eq.1 h3 with e | rfl
            · exact hsame.out j h1 h2 e
            · exact HE.out⟩
          case measure => simp [intOf]; omega
        · have hne : decide (xs = ys) = false := by
            rw [decide_eq_false_iff_not]; intro e
            exact he (by simp [e])
          have HN := Lib.hid hne
          clear hne
          generalize xs[k] = x at d0 d1 d2 he
          generalize ys[k] = y at e0 e1 e2 he
          by_cases hk : x.kind = y.kind
          · by_cases hn : x.n = y.n
            · have ht : (x.text.toList == y.text.toList) = false := by
                rw [beq_eq_false_iff_ne]
                intro e
                apply he
                obtain ⟨k1, n1, t1⟩ := x
                obtain ⟨k2, n2, t2⟩ := y
                simp only at hk hn e
                subst hk hn
                rw [ByteArray.toList_eq, ByteArray.toList_eq] at e
                obtain ⟨⟨t1⟩⟩ := t1
                obtain ⟨⟨t2⟩⟩ := t2
                simp only at e
                rw [e]
              rw [hk] at d0
              rw [hn] at d1
              go_wp2
              go_quiet (fail)
              go_wp2
              go_ret
              exact ⟨by rw [HN.out]; rfl, below_drewN hB _⟩
            · have ht : (x.n == y.n) = false := beq_eq_false_iff_ne.2 hn
              rw [hk] at d0
              go_wp2
              go_quiet (fail)
              go_wp2
              go_ret
              exact ⟨by rw [HN.out]; rfl, below_drewN hB _⟩
          · have ht : (x.kind == y.kind) = false := beq_eq_false_iff_ne.2 hk
            go_wp2
            go_quiet (fail)
            go_wp2
            go_ret
            exact ⟨by rw [HN.out]; rfl, below_drewN hB _⟩
      · have hall : decide (xs = ys) = true := by
          rw [decide_eq_true_eq]
          exact List.ext_getElem HL.out (fun j h1 h2 => hsame.out j h1 h2 (by omega))
        have HN := Lib.hid hall
        clear hall
        go_wp2
        go_ret
        exact ⟨by rw [HN.out]; rfl, hB⟩
  · have hne : decide (xs = ys) = false := by
      rw [decide_eq_false_iff_not]; intro e; exact hl (by rw [e])
    have hb : ((xs.length : Int) != (ys.length : Int)) = true := by rw [bne_iff_ne]; omega
    have HN := Lib.hid hne
    clear hne hx hy
    go_enter Tryd.func25, Tryd.ntmps25
    go_wp2
    go_ret
    exact ⟨by rw [HN.out]; rfl, Below.refl _ _⟩
end Go.Proofs.YthgnihckeckaiaaDoor.Tm
/- Lent and Kept: a copy of cells with a mark behind it. -/
namespace Go.Proofs.YthgnihckeckaiaaDoor.Tm
open Go.RowKit
set_option linter.unusedVariables false
set_option linter.unusedSimpArgs false

theorem cell_info : (Tryd.prog.info? 40).map (fun i => (i.zero, i.size, i.bytes)) = some (some (.agg #[.int .i64 0, .int .i64 0, .string ⟨#[]⟩]), 3, 32) := by kernel_rfl
def markT : ByteArray := ⟨#[98, 101, 104, 105, 110, 100, 32, 119, 104, 97, 116, 32, 119, 97, 115, 32, 104, 97, 110, 100, 101, 100, 32, 105, 110]⟩
def markC : CellD := ⟨0, 0, markT⟩
/-- A lent copy. -/
structure LentAt (w : World) (base : Nat) (A : Option Addr) (cap : Nat) (l : List CellD) : Prop where
  row : w.ownsRow base 40 3 (.slice A (l.length + 1) cap) (l.length + 1) (encs (l ++ [markC]))
theorem new_cell (w : World) (c : CellD) (t : TypeId) : CellAt (w.alloc (.cells #[.int .i64 c.kind, .int .i64 c.n, .string c.text] t)) w.heap.size 0 c := ⟨by go_cell, by go_cell, by go_cell⟩
set_option maxHeartbeats 1000000 in
theorem lent_any (l : List CellD) (A : Option Addr) (cap : Nat) (w : World) (hr : Reads w A l) (hl : (l.length + 1) * 32 ≤ 140737488355328) :
    Calls Tryd.prog 65 #[.slice A l.length cap] w fun e w' => ∃ A' cap', e = .returned (.slice A' l.length cap') ∧ LentAt w' w.heap.size A' cap' l ∧ Below w.heap.size w w' := by
  obtain ⟨i0, hi, hz0, hz1, hz2⟩ := info_parts cell_info
  have hS := Lib.hid (Src.of_reads hr)
  clear hr
  go_enter Tryd.func65, Tryd.ntmps65
  go_wp2_with (first
    | (at_builtin
       refine wpList_app _ rfl (.tmp 4) (.tmp 5) _ rfl w.heap.size _ i0 _ 3 32 Tryd.underlying22 hi hz0 hz1 hz2 rfl (by omega) (.slice none 0 0) 0 [] rfl (row_nil _ _ _ _) A l.length cap (encs l) rfl hS.out (by simp only [maxLen]; omega) (by omega) (Nat.le_refl _) ?_
       intro v1 w1 hown1 hg1 hat1
       rw [Nat.zero_add, List.nil_append] at hown1
       have hB1 : Below w.heap.size w w1 := (Below.refl _ _).grown hg1 (Nat.le_refl _) (by simp [Value.ownBlock])
       have hsz1 := hB1.size
       obtain ⟨A1, c1, rfl⟩ := row_slice hown1)
    | (at_builtin
       refine wpList_app _ rfl (.tmp 7) (.tmp 9) _ rfl w.heap.size _ i0 _ 3 32 Tryd.underlying22 hi hz0 hz1 hz2 rfl (by omega) (.slice A1 l.length c1) l.length (encs l) rfl (hown1.alloc _) (some ⟨w1.heap.size, 0, none⟩) 1 1 (encs [markC]) rfl (Src.of_one (new_cell w1 markC _)) (by simp only [maxLen]; omega) (by omega) (by rw [World.size_alloc]; omega) ?_
       intro v2 w2 hown2 hg2 hat2
       rw [← encs_append] at hown2
       have hB2 : Below w.heap.size w w2 := (below_alloc' hB1 _).grown hg2 (below_alloc' hB1 _).size (fun k hk => row_base hown1 k hk)
       obtain ⟨A2, c2, rfl⟩ := row_slice hown2
       have hcap := row_cap hown2))
  go_ret
  exact ⟨A2, c2, rfl, ⟨hown2⟩, hB2⟩
theorem LentAt.reads2 {w : World} {base cap : Nat} {A : Option Addr} {l : List CellD} (h : LentAt w base A cap l) : Reads w A (l ++ [markC]) :=
  Reads.of_row (base := base) (cap := cap) (e := 40) (by simpa using h.row)
theorem LentAt.reads {w : World} {base cap : Nat} {A : Option Addr} {l : List CellD} (h : LentAt w base A cap l) : Reads w A l := by
  have := h.reads2.take l.length
  simpa using this
theorem LentAt.below {w W : World} {base cap : Nat} {A : Option Addr} {l : List CellD} (h : LentAt w base A cap l) (hB : Below w.heap.size w W) : LentAt W base A cap l := ⟨row_below h.row hB⟩
set_option maxHeartbeats 1000000 in
theorem kept_any (l : List CellD) (A B : Option Addr) (base cap cap2 : Nat) (w : World) (h : LentAt w base A cap l) (hr : Reads w B l) (hl : (l.length + 1) * 32 ≤ 140737488355328) :
    Calls Tryd.prog 66 #[.slice A l.length cap, .slice B l.length cap2] w fun e w' => e = .returned (.bool true) ∧ Below w.heap.size w w' := by
  have hcap := row_cap h.row
  have H := Lib.hid h
  have HR := Lib.hid hr
  clear h hr
  go_enter Tryd.func66, Tryd.ntmps66
  go_wp2_with fail
  refine (rsame_any A B cap cap2 l l _ H.out.reads HR.out (by omega) (by omega)).mono ?_
  rintro e w' ⟨rfl, hb⟩
  rw [show decide (l = l) = true by simp]
  obtain ⟨b, o, rfl, hc0, hc1, hc2⟩ := (H.out.below hb).reads2 l.length (by simp)
  rw [show (l ++ [markC])[l.length] = markC by simp] at hc2
  have hm : w'.cell? ⟨b, o + l.length * 3 + 2, none⟩ = some (.string ⟨#[98, 101, 104, 105, 110, 100, 32, 119, 104, 97, 116, 32, 119, 97, 115, 32, 104, 97, 110, 100, 101, 100, 32, 105, 110]⟩) := hc2
  clear hc0 hc1 hc2
  go_wp2
  go_ret
  exact ⟨rfl, hb⟩
end Go.Proofs.YthgnihckeckaiaaDoor.Tm
/- The loops of Right and End, as laws of their specs. Plain lists. -/
namespace Go.Proofs.YthgnihckeckaiaaDoor.Tm
set_option linter.unusedVariables false
set_option linter.unusedSimpArgs false

theorem right_bad {l : List CellD} {j : Nat} {o : Int} (h : j < l.length) (e : cellE l[j] ≠ 0) : rightL (l.drop j) j o = (cellE l[j], (j : Int)) := by
  rw [List.drop_eq_getElem_cons h, rightL, if_pos e]
theorem right_more {l : List CellD} {j : Nat} {o : Int} (h : j < l.length) (e : cellE l[j] = 0) (ho : o = 0) : rightL (l.drop j) j o = (63, (j : Int)) := by
  rw [List.drop_eq_getElem_cons h, rightL, if_neg (by simp [e]), if_pos ho]
theorem right_next {l : List CellD} {j : Nat} {o : Int} (h : j < l.length) (e : cellE l[j] = 0) (ho : o ≠ 0) : rightL (l.drop j) j o = rightL (l.drop (j + 1)) (j + 1) (o - 1 + kidsD l[j]) := by
  rw [List.drop_eq_getElem_cons h, rightL, if_neg (by simp [e]), if_neg ho]
theorem right_short {l : List CellD} {j : Nat} {o : Int} (h : l.length ≤ j) (ho : 0 < o) : rightL (l.drop j) j o = (62, (j : Int)) := by
  rw [List.drop_eq_nil_of_le h, rightL, if_pos ho]
theorem right_done {l : List CellD} {j : Nat} {o : Int} (h : l.length ≤ j) (ho : ¬ 0 < o) : rightL (l.drop j) j o = (0, 0) := by
  rw [List.drop_eq_nil_of_le h, rightL, if_neg ho]
theorem end_done {l : List CellD} {j : Nat} {o : Int} (h : j < l.length) (ho : o - 1 + kidsD l[j] = 0) : endL (l.drop j) j o = ((j : Int) + 1, 0) := by
  rw [List.drop_eq_getElem_cons h, endL, if_pos ho]
theorem end_next {l : List CellD} {j : Nat} {o : Int} (h : j < l.length) (ho : ¬ o - 1 + kidsD l[j] = 0) : endL (l.drop j) j o = endL (l.drop (j + 1)) (j + 1) (o - 1 + kidsD l[j]) := by
  rw [List.drop_eq_getElem_cons h, endL, if_neg ho]
theorem end_short {l : List CellD} {j : Nat} {o : Int} (h : l.length ≤ j) : endL (l.drop j) j o = (0, 62) := by
  rw [List.drop_eq_nil_of_le h, endL]
end Go.Proofs.YthgnihckeckaiaaDoor.Tm
/- How many terms stand behind a cell: both texts. -/
namespace Go.Proofs.YthgnihckeckaiaaDoor.Tm
open Go.RowKit
set_option linter.unusedVariables false
set_option linter.unusedSimpArgs false

theorem behind_any (c : CellD) (w : World) : Calls Tryd.prog 102 #[.agg #[.int .i64 c.kind, .int .i64 c.n, .string c.text]] w fun e w' => e = .returned (.int .i64 (kidsD c)) ∧ Below w.heap.size w w' := by
  by_cases h7 : c.kind = 7
  · have e : kidsD c = 2 := by simp [kidsD, h7]
    have H := Lib.hid e
    clear e
    go_enter Tryd.func102, Tryd.ntmps102
    go_wp2
    go_ret
    exact ⟨by rw [H.out]; rfl, below_one _ _⟩
  · by_cases h5 : c.kind = 5
    · by_cases h0 : 0 ≤ c.n
      · by_cases h1 : c.n ≤ 255
        · have e : (kidsD c : Int) = c.n := by unfold kidsD; rw [if_neg h7, if_pos ⟨h5, h0, h1⟩]; omega
          have H := Lib.hid e
          clear e
          go_enter Tryd.func102, Tryd.ntmps102
          go_wp2
          go_ret
          exact ⟨by rw [H.out]; rfl, below_one _ _⟩
        · have e : kidsD c = 0 := by simp [kidsD, h5, h1]
          have H := Lib.hid e
          clear e
          go_enter Tryd.func102, Tryd.ntmps102
          go_wp2
          go_ret
          exact ⟨by rw [H.out]; rfl, below_one _ _⟩
      · have e : kidsD c = 0 := by simp [kidsD, h5, h0]
        have H := Lib.hid e
        clear e
        go_enter Tryd.func102, Tryd.ntmps102
        go_wp2
        go_ret
        exact ⟨by rw [H.out]; rfl, below_one _ _⟩
    · have e : kidsD c = 0 := by simp [kidsD, h5, h7]
      have H := Lib.hid e
      clear e
      go_enter Tryd.func102, Tryd.ntmps102
      go_wp2
      go_ret
      exact ⟨by rw [H.out]; rfl, below_one _ _⟩
theorem rkids_any (c : CellD) (w : World) : Calls Tryd.prog 109 #[.agg #[.int .i64 c.kind, .int .i64 c.n, .string c.text]] w fun e w' => e = .returned (.int .i64 (kidsD c)) ∧ Below w.heap.size w w' := by
  by_cases h7 : c.kind = 7
  · have e : kidsD c = 2 := by simp [kidsD, h7]
    have H := Lib.hid e
    clear e
    go_enter Tryd.func109, Tryd.ntmps109
    go_wp2
    go_ret
    exact ⟨by rw [H.out]; rfl, below_one _ _⟩
  · by_cases h5 : c.kind = 5
    · by_cases h0 : 0 ≤ c.n
      · by_cases h1 : c.n ≤ 255
        · have e : (kidsD c : Int) = c.n := by unfold kidsD; rw [if_neg h7, if_pos ⟨h5, h0, h1⟩]; omega
          have H := Lib.hid e
          clear e
          go_enter Tryd.func109, Tryd.ntmps109
          go_wp2
          go_ret
          exact ⟨by rw [H.out]; rfl, below_one _ _⟩
        · have e : kidsD c = 0 := by simp [kidsD, h5, h1]
          have H := Lib.hid e
          clear e
          go_enter Tryd.func109, Tryd.ntmps109
          go_wp2
          go_ret
          exact ⟨by rw [H.out]; rfl, below_one _ _⟩
      · have e : kidsD c = 0 := by simp [kidsD, h5, h0]
        have H := Lib.hid e
        clear e
        go_enter Tryd.func109, Tryd.ntmps109
        go_wp2
        go_ret
        exact ⟨by rw [H.out]; rfl, below_one _ _⟩
    · have e : kidsD c = 0 := by simp [kidsD, h5, h7]
      have H := Lib.hid e
      clear e
      go_enter Tryd.func109, Tryd.ntmps109
      go_wp2
      go_ret
      exact ⟨by rw [H.out]; rfl, below_one _ _⟩
end Go.Proofs.YthgnihckeckaiaaDoor.Tm
/- UTF-8: what the model's decoder tells of each class of first bytes. -/
namespace Go.Proofs.YthgnihckeckaiaaDoor.Tm
set_option linter.unusedVariables false
set_option linter.unusedSimpArgs false

def bN (s : ByteArray) (i : Nat) : Nat := (s.get! i).toNat
theorem bN_lt (s : ByteArray) (i : Nat) : bN s i < 256 := (s.get! i).toNat_lt
def contN (s : ByteArray) (i : Nat) : Bool := decide (i < s.size) && decide (bN s i / 64 = 2)
theorem decode_eq (s : ByteArray) (i : Nat) : Utf8.decode s i =
    (if bN s i < 128 then (bN s i, 1)
    else if bN s i / 32 = 6 ∧ contN s (i + 1) = true then
      (if bN s i % 32 * 64 + bN s (i + 1) % 64 ≥ 128 then (bN s i % 32 * 64 + bN s (i + 1) % 64, 2) else (65533, 1))
    else if bN s i / 16 = 14 ∧ contN s (i + 1) = true ∧ contN s (i + 2) = true then
      (if bN s i % 16 * 4096 + bN s (i + 1) % 64 * 64 + bN s (i + 2) % 64 ≥ 2048 ∧ Utf8.valid (bN s i % 16 * 4096 + bN s (i + 1) % 64 * 64 + bN s (i + 2) % 64 : Nat) = true then (bN s i % 16 * 4096 + bN s (i + 1) % 64 * 64 + bN s (i + 2) % 64, 3) else (65533, 1))
    else if bN s i / 8 = 30 ∧ contN s (i + 1) = true ∧ contN s (i + 2) = true ∧ contN s (i + 3) = true then
      (if bN s i % 8 * 262144 + bN s (i + 1) % 64 * 4096 + bN s (i + 2) % 64 * 64 + bN s (i + 3) % 64 ≥ 65536 ∧ Utf8.valid (bN s i % 8 * 262144 + bN s (i + 1) % 64 * 4096 + bN s (i + 2) % 64 * 64 + bN s (i + 3) % 64 : Nat) = true then (bN s i % 8 * 262144 + bN s (i + 1) % 64 * 4096 + bN s (i + 2) % 64 * 64 + bN s (i + 3) % 64, 4) else (65533, 1))
    else (65533, 1)) := by
  unfold Utf8.decode contN bN
  simp only [Utf8.runeError, Nat.add_zero, beq_iff_eq, Bool.and_eq_true, decide_eq_true_eq, and_assoc]
theorem width_pos (s : ByteArray) (i : Nat) : 1 ≤ (Utf8.decode s i).2 := by
  rw [decode_eq]
  repeat' split
  all_goals simp
theorem valid_iff (c : Nat) : Utf8.valid (c : Int) = true ↔ (c < 55296 ∨ (57344 ≤ c ∧ c ≤ 1114111)) := by
  simp [Utf8.valid]; omega
theorem okFrom_end {s : ByteArray} {i : Nat} (h : ¬ i < s.size) : okFrom s i = true := by rw [okFrom, if_neg h]
theorem okFrom_bad {s : ByteArray} {i : Nat} (h : i < s.size) (hb : badAt s i = true) : okFrom s i = false := by rw [okFrom, if_pos h, if_pos hb]
theorem okFrom_next {s : ByteArray} {i : Nat} (h : i < s.size) (hb : badAt s i = false) : okFrom s i = okFrom s (i + (Utf8.decode s i).2) := by
  conv => lhs; rw [okFrom]
  rw [if_pos h, if_neg (by rw [hb]; simp)]
  have := width_pos s i
  rw [Nat.max_eq_right this]
/-- The classes. -/
theorem cls1 {s : ByteArray} {i : Nat} (h : i < s.size) (hb : bN s i < 128) : okFrom s i = okFrom s (i + 1) := by
  have e : Utf8.decode s i = (bN s i, 1) := by rw [decode_eq, if_pos hb]
  rw [okFrom_next h (by unfold badAt; rw [e]; simp; omega), e]
theorem cls_bad {s : ByteArray} {i : Nat} (h : i < s.size) (e : Utf8.decode s i = (65533, 1)) : okFrom s i = false := okFrom_bad h (by unfold badAt; rw [e]; simp)
theorem cls2 {s : ByteArray} {i : Nat} (h : i < s.size) (h0 : 128 ≤ bN s i) (h1 : bN s i < 194) : okFrom s i = false := by
  have hx := bN_lt s (i + 1)
  refine cls_bad h ?_
  rw [decode_eq, if_neg (by omega)]
  split
  · rw [if_neg (by omega)]
  · rw [if_neg (by omega), if_neg (by omega)]
theorem cls6 {s : ByteArray} {i : Nat} (h : i < s.size) (h0 : 245 ≤ bN s i) : okFrom s i = false := by
  have hx := bN_lt s i
  refine cls_bad h ?_
  rw [decode_eq, if_neg (by omega), if_neg (by omega), if_neg (by omega)]
  split
  · rw [if_neg ?_]
    rw [valid_iff]; omega
  · rfl
theorem cls3 {s : ByteArray} {i : Nat} (h : i < s.size) (h0 : 194 ≤ bN s i) (h1 : bN s i < 224) : okFrom s i = (if contN s (i + 1) = true then okFrom s (i + 2) else false) := by
  by_cases c : contN s (i + 1) = true
  · have e : Utf8.decode s i = (bN s i % 32 * 64 + bN s (i + 1) % 64, 2) := by
      rw [decode_eq, if_neg (by omega), if_pos ⟨by omega, c⟩, if_pos (by omega)]
    rw [if_pos c, okFrom_next h (by unfold badAt; rw [e]; simp), e]
  · rw [if_neg c]
    refine cls_bad h ?_
    rw [decode_eq, if_neg (by omega), if_neg (fun hh => c hh.2), if_neg (by omega), if_neg (by omega)]
/-- A rune of three bytes, of four. -/
def r3 (s : ByteArray) (i : Nat) : Nat := bN s i % 16 * 4096 + bN s (i + 1) % 64 * 64 + bN s (i + 2) % 64
def r4 (s : ByteArray) (i : Nat) : Nat := bN s i % 8 * 262144 + bN s (i + 1) % 64 * 4096 + bN s (i + 2) % 64 * 64 + bN s (i + 3) % 64
theorem cls4 {s : ByteArray} {i : Nat} (h : i < s.size) (h0 : 224 ≤ bN s i) (h1 : bN s i < 240) :
    okFrom s i = (if contN s (i + 1) = true then (if contN s (i + 2) = true then (if 2048 ≤ r3 s i ∧ (r3 s i < 55296 ∨ 57344 ≤ r3 s i) then okFrom s (i + 3) else false) else false) else false) := by
  by_cases c1 : contN s (i + 1) = true
  · by_cases c2 : contN s (i + 2) = true
    · rw [if_pos c1, if_pos c2]
      have hr : r3 s i ≤ 65535 := by unfold r3; omega
      by_cases c3 : 2048 ≤ r3 s i ∧ (r3 s i < 55296 ∨ 57344 ≤ r3 s i)
      · have e : Utf8.decode s i = (r3 s i, 3) := by
          rw [decode_eq, if_neg (by omega), if_neg (by omega), if_pos ⟨by omega, c1, c2⟩, if_pos ⟨c3.1, (valid_iff (r3 s i)).2 (by omega)⟩]
          rfl
        rw [if_pos c3, okFrom_next h (by unfold badAt; rw [e]; simp), e]
      · rw [if_neg c3]
        refine cls_bad h ?_
        rw [decode_eq, if_neg (by omega), if_neg (by omega), if_pos ⟨by omega, c1, c2⟩, if_neg]
        rintro ⟨g1, g2⟩
        have := (valid_iff (r3 s i)).1 g2
        have g1' : 2048 ≤ r3 s i := g1
        omega
    · rw [if_pos c1, if_neg c2]
      refine cls_bad h ?_
      rw [decode_eq, if_neg (by omega), if_neg (by omega), if_neg (fun hh => c2 hh.2.2), if_neg (by omega)]
  · rw [if_neg c1]
    refine cls_bad h ?_
    rw [decode_eq, if_neg (by omega), if_neg (by omega), if_neg (fun hh => c1 hh.2.1), if_neg (by omega)]
theorem cls5 {s : ByteArray} {i : Nat} (h : i < s.size) (h0 : 240 ≤ bN s i) (h1 : bN s i < 245) :
    okFrom s i = (if contN s (i + 1) = true then (if contN s (i + 2) = true then (if contN s (i + 3) = true then (if 65536 ≤ r4 s i ∧ r4 s i ≤ 1114111 then okFrom s (i + 4) else false) else false) else false) else false) := by
  have hx : ¬ bN s i < 128 := by omega
  have hy : ¬ (bN s i / 32 = 6 ∧ contN s (i + 1) = true) := by omega
  have hz : ¬ (bN s i / 16 = 14 ∧ contN s (i + 1) = true ∧ contN s (i + 2) = true) := by omega
  by_cases c1 : contN s (i + 1) = true
  · by_cases c2 : contN s (i + 2) = true
    · by_cases c3 : contN s (i + 3) = true
      · rw [if_pos c1, if_pos c2, if_pos c3]
        by_cases c4 : 65536 ≤ r4 s i ∧ r4 s i ≤ 1114111
        · have e : Utf8.decode s i = (r4 s i, 4) := by
            rw [decode_eq, if_neg hx, if_neg hy, if_neg hz, if_pos ⟨by omega, c1, c2, c3⟩, if_pos ⟨c4.1, (valid_iff (r4 s i)).2 (by omega)⟩]
            rfl
          rw [if_pos c4, okFrom_next h (by unfold badAt; rw [e]; simp), e]
        · rw [if_neg c4]
          refine cls_bad h ?_
          rw [decode_eq, if_neg hx, if_neg hy, if_neg hz, if_pos ⟨by omega, c1, c2, c3⟩, if_neg]
          rintro ⟨g1, g2⟩
          have := (valid_iff (r4 s i)).1 g2
          have g1' : 65536 ≤ r4 s i := g1
          omega
      · rw [if_pos c1, if_pos c2, if_neg c3]
        refine cls_bad h ?_
        rw [decode_eq, if_neg hx, if_neg hy, if_neg hz, if_neg (fun hh => c3 hh.2.2.2)]
    · rw [if_pos c1, if_neg c2]
      refine cls_bad h ?_
      rw [decode_eq, if_neg hx, if_neg hy, if_neg hz, if_neg (fun hh => c2 hh.2.2.1)]
  · rw [if_neg c1]
    refine cls_bad h ?_
    rw [decode_eq, if_neg hx, if_neg hy, if_neg hz, if_neg (fun hh => c1 hh.2.1)]
/-- What is decoded of a string's end, cut off. -/
theorem get_lt (s : ByteArray) (k : Nat) (h : k < s.size) : s.get! k = s[k]'h := by
  cases s with
  | mk d => exact getElem!_pos d k h
theorem get_drop (s : ByteArray) (i k : Nat) (h : i + k < s.size) : (s.extract i s.size).get! k = s.get! (i + k) := by
  have h1 : k < (s.extract i s.size).size := by simp; omega
  rw [get_lt _ _ h1, get_lt _ _ h]
  simp [ByteArray.getElem_extract]
theorem get_past (s : ByteArray) (k : Nat) (h : s.size ≤ k) : s.get! k = 0 := by
  cases s with
  | mk d => exact getElem!_neg d k (by have h' : d.size ≤ k := h; omega)
theorem bN_drop (s : ByteArray) (i k : Nat) (hi : i ≤ s.size) : bN (s.extract i s.size) k = bN s (i + k) := by
  unfold bN
  by_cases h : i + k < s.size
  · rw [get_drop s i k h]
  · rw [get_past _ _ (by simp; omega), get_past _ _ (by omega)]
theorem contN_drop (s : ByteArray) (i k : Nat) (hi : i ≤ s.size) : contN (s.extract i s.size) k = contN s (i + k) := by
  unfold contN
  rw [bN_drop s i k hi]
  have e : (s.extract i s.size).size = s.size - i := by simp
  rw [e]
  congr 1
  rw [decide_eq_decide]
  omega
theorem decode_drop (s : ByteArray) (i : Nat) (h : i < s.size) : Utf8.decode (s.extract i s.size) 0 = Utf8.decode s i := by
  rw [decode_eq, decode_eq]
  simp only [Nat.zero_add, bN_drop s i _ (by omega), contN_drop s i _ (by omega), Nat.add_zero]
end Go.Proofs.YthgnihckeckaiaaDoor.Tm
/- UTF-8: the program's 'spelled' and the document's 'utf8' both tell utf8B. -/
namespace Go.Proofs.YthgnihckeckaiaaDoor.Tm
open Go.RowKit
set_option linter.unusedVariables false
set_option linter.unusedSimpArgs false

theorem iterAt_below {w W : World} {s : ByteArray} (h : Below w.heap.size w W) (p' : Nat) (k : Nat) (hk : w.heap.size ≤ k) : Below w.heap.size w (W.iterAt k s p') :=
  ⟨h.os, h.tape, h.output, by simp [World.iterAt]; exact h.size, fun i hi => by
    rw [← h.block i hi]
    simp [World.iterAt, show k ≠ i by omega]⟩
theorem iterAt_self (w : World) (k : Nat) (s : ByteArray) (pos pos' : Nat) (hk : w.heap[k]? = some (.stringIter s pos)) : (w.iterAt k s pos').heap[k]? = some (.stringIter s pos') := by
  have hlt : k < w.heap.size := (Array.getElem?_eq_some_iff.1 hk).1
  simp [World.iterAt, hlt]
set_option maxHeartbeats 1000000 in
theorem spelled_any (s : ByteArray) (w : World) (hs : s.size ≤ 9223372036854775807) (hT : Lib.Utf8Tabs 1 2 w) :
    Calls Tryd.prog 131 #[.string s] w fun e w' => e = .returned (.bool (utf8B s)) ∧ Below w.heap.size w w' := by
  have HT := Lib.hid hT
  clear hT
  have hi0 : (w.iter s 0).heap[w.heap.size]? = some (.stringIter s 0) := heap_new _ _
  have hB0 : Below w.heap.size w (w.iter s 0) := below_one w _
  go_enter Tryd.func131, Tryd.ntmps131
  go_wp2_with fail
  go_loopw [3] (fun _ wr => ∃ p : Nat, wr.heap[w.heap.size]? = some (.stringIter s p) ∧ Below w.heap.size w wr ∧ Hid (utf8B s = okFrom s p)) (fun _ wr => s.size - wr.iterPos w.heap.size)
  case atStart => exact ⟨0, hi0, hB0, rfl⟩
  case round =>
    obtain ⟨p, hp, hB, hE⟩ := hrel
    by_cases hlt : p < s.size
    · have hn := fun ty => Lib.run_next_any_at (P := Tryd.prog) wr w.heap.size s p ty hp hlt
      have hw := width_pos s p
      have hB2 := iterAt_below (s := s) hB (p + (Utf8.decode s p).2) w.heap.size (Nat.le_refl _)
      have hi2 := iterAt_self wr w.heap.size s p (p + (Utf8.decode s p).2) hp
      by_cases hr : (Utf8.decode s p).1 = 65533
      · have hd : Lib.decodeGo (s.extract p s.size) = Utf8.decode s p := by
          unfold Lib.decodeGo
          rw [if_neg (by simp; omega)]
          exact decode_drop s p hlt
        have hT2 := Lib.hid (Utf8Tabs_below HT.out hB2)
        by_cases hk : (Utf8.decode s p).2 = 1
        · have hF := Lib.hid (hE.out.trans (okFrom_bad hlt (by unfold badAt; rw [hr, hk]; simp)))
          generalize Utf8.decode s p = dk at hn hB2 hr hk hd hi2 hT2
          obtain ⟨d1, d2⟩ := dk
          simp only at hn hB2 hr hk hi2 hT2
          subst hr hk
          have HD := Lib.hid hd
          clear hd hE
          go_wp2_with fail
          refine (Tryd.utf8_DecodeRuneInString _ _ hT2.out).mono ?_
          rintro e w' ⟨rfl, hb⟩
          rw [HD.out]
          go_wp2
          go_ret
          exact ⟨by rw [hF.out]; rfl, below_then hB2 hb⟩
        · have hF := Lib.hid (hE.out.trans (okFrom_next hlt (by unfold badAt; simp [hk])))
          generalize Utf8.decode s p = dk at hn hB2 hr hk hd hi2 hT2 hF hw
          obtain ⟨d1, d2⟩ := dk
          simp only at hn hB2 hr hk hi2 hT2 hF hw
          subst hr
          have hkb : ((d2 : Int) == 1) = false := beq_eq_false_iff_ne.2 (by omega)
          have HD := Lib.hid hd
          clear hd hE
          go_wp2_with fail
          refine (Tryd.utf8_DecodeRuneInString _ _ hT2.out).mono ?_
          rintro e w' ⟨rfl, hb⟩
          rw [HD.out]
          have hi3 : w'.heap[w.heap.size]? = some (.stringIter s (p + d2)) := (hb.block _ (lt_of_block hi2)).trans hi2
          go_wp2
          go_roundw
          case rel => exact ⟨p + d2, hi3, below_then hB2 hb, hF⟩
          case measure => rw [iterPos_of hi3, iterPos_of hp]; omega
      · have hF := Lib.hid (hE.out.trans (okFrom_next hlt (by unfold badAt; simp [hr])))
        generalize Utf8.decode s p = dk at hn hB2 hr hi2 hF hw
        obtain ⟨d1, d2⟩ := dk
        simp only at hn hB2 hr hi2 hF hw
        have hkb : ((d1 : Int) == 65533) = false := beq_eq_false_iff_ne.2 (by omega)
        clear hE
        go_wp2
        go_roundw
        case rel => exact ⟨p + d2, hi2, hB2, hF⟩
        case measure => rw [iterPos_of hi2, iterPos_of hp]; omega
    · have hn := fun ty => Lib.run_next_end_at (P := Tryd.prog) wr w.heap.size s p ty hp hlt
      have hF := Lib.hid (hE.out.trans (okFrom_end hlt))
      go_wp2
      go_ret
      exact ⟨by rw [hF.out]; rfl, hB⟩
end Go.Proofs.YthgnihckeckaiaaDoor.Tm
