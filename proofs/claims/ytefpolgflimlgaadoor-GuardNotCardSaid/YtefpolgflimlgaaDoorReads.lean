/- Cells of terms in memory: a slice that reads as a list of cells; a row of the call's own; frames. -/
import Derived.Lib.Hide
import Derived.Below
import Derived.Deep.QuietTactic
import Derived.Test.YtefpolgflimlgaaDoorTerm
namespace Go.Proofs.YtefpolgflimlgaaDoor.Tm
open Go.RowKit
set_option linter.unusedVariables false
set_option linter.unusedSimpArgs false

/-! frames -/
theorem grown_below {a b : World} (h : Below a.heap.size a b) (row : Option Nat) : a.grownBy b row := ⟨h.os, h.tape, h.output, h.size, fun i hi _ => h.block i hi⟩
theorem grown_trans {a b c : World} {row : Option Nat} (h : a.grownBy b row) (k : b.grownBy c row) : a.grownBy c row :=
  ⟨k.os.trans h.os, k.tape.trans h.tape, k.output.trans h.output, Nat.le_trans h.size k.size, fun i hi hr => (k.block i (Nat.lt_of_lt_of_le hi h.size) hr).trans (h.block i hi hr)⟩
theorem grown_setCell (w : World) (c i : Nat) (v : Value) : w.grownBy (w.setCell ⟨c, i, none⟩ v) (some c) :=
  ⟨rfl, rfl, rfl, by simp [World.setCell], fun k _ hk => Below.heap_setCell _ _ _ _ (fun e => hk (by rw [e]))⟩
theorem below_alloc' {w W : World} (h : Below w.heap.size w W) (o : Obj) : Below w.heap.size w (W.alloc o) := h.alloc h.size o
theorem below_one (w : World) (o : Obj) : Below w.heap.size w (w.alloc o) := (Below.refl _ w).alloc (Nat.le_refl _) o
theorem below_then {w W V : World} (h : Below w.heap.size w W) (k : Below W.heap.size W V) : Below w.heap.size w V := h.trans (k.mono h.size)
theorem heap_new (w : World) (o : Obj) : (w.alloc o).heap[w.heap.size]? = some o := by show (w.heap.push o)[_]? = _; simp
theorem heap_setCell_self {w : World} {b i : Nat} {a : Array Value} {t : TypeId} {fr : Nat × Nat} {v : Value} (h : w.heap[b]? = some (.cells a t fr)) : (w.setCell ⟨b, i, none⟩ v).heap[b]? = some (.cells (a.setIfInBounds i v) t fr) := by
  have hlt := lt_of_block h
  have h' : w.heap[b] = .cells a t fr := by simpa [Array.getElem?_eq_getElem hlt] using h
  show (w.heap.modify b _)[b]? = _
  rw [Array.getElem?_eq_getElem (by simpa using hlt), Array.getElem_modify_self, h']
  rfl
theorem cell_lt {w : World} {a : Addr} {v : Value} (h : w.cell? a = some v) : a.block < w.heap.size := World.block_lt_of_cell? w a h
theorem cell_below {w W : World} (h : Below w.heap.size w W) {a : Addr} {v : Value} (hc : w.cell? a = some v) : W.cell? a = some v := (h.cell (cell_lt hc)).trans hc

/-! a slice that reads as cells -/
/-- The j-th cell at an address. -/
def CellAt (w : World) (b o : Nat) (c : CellD) : Prop :=
  w.cell? ⟨b, o, none⟩ = some (.int .i64 c.kind) ∧ w.cell? ⟨b, o + 1, none⟩ = some (.int .i64 c.n) ∧ w.cell? ⟨b, o + 2, none⟩ = some (.string c.text)
def Reads (w : World) (A : Option Addr) (l : List CellD) : Prop := ∀ j (h : j < l.length), ∃ b o, A = some ⟨b, o, none⟩ ∧ CellAt w b (o + j * 3) l[j]
theorem CellAt.below {w W : World} {b o : Nat} {c : CellD} (h : CellAt w b o c) (hB : Below w.heap.size w W) : CellAt W b o c := ⟨cell_below hB h.1, cell_below hB h.2.1, cell_below hB h.2.2⟩
theorem Reads.below {w W : World} {A : Option Addr} {l : List CellD} (h : Reads w A l) (hB : Below w.heap.size w W) : Reads W A l := fun j hj => by
  obtain ⟨b, o, e, hc⟩ := h j hj
  exact ⟨b, o, e, hc.below hB⟩
theorem Reads.drewN {w : World} {A : Option Addr} {l : List CellD} (h : Reads w A l) (n : Nat) : Reads (w.drewN n) A l := h
theorem Reads.nil (w : World) (A : Option Addr) : Reads w A [] := fun j hj => absurd hj (Nat.not_lt_zero j)
theorem cell_of_same {w W : World} {a : Addr} (h : W.heap[a.block]? = w.heap[a.block]?) : W.cell? a = w.cell? a := World.cell?_of_block (w := w) h
theorem Reads.kept {w W : World} {A : Option Addr} {l : List CellD} {row : Option Nat} (h : Reads w A l) (hg : w.grownBy W row) (hne : ∀ b o, A = some ⟨b, o, none⟩ → row ≠ some b) : Reads W A l := fun j hj => by
  obtain ⟨b, o, e, hc⟩ := h j hj
  have hb : W.heap[b]? = w.heap[b]? := hg.block b (cell_lt hc.1) (fun e' => hne b o e e'.symm)
  exact ⟨b, o, e, (cell_of_same (a := ⟨b, _, none⟩) hb).trans hc.1, (cell_of_same (a := ⟨b, _, none⟩) hb).trans hc.2.1, (cell_of_same (a := ⟨b, _, none⟩) hb).trans hc.2.2⟩
theorem Reads.take {w : World} {A : Option Addr} {l : List CellD} (h : Reads w A l) (m : Nat) : Reads w A (l.take m) := fun j hj => by
  obtain ⟨b, o, e, hc⟩ := h j (by simp at hj; omega)
  exact ⟨b, o, e, by rw [List.getElem_take]; exact hc⟩
theorem Reads.drop {w : World} {b o : Nat} {l : List CellD} (h : Reads w (some ⟨b, o, none⟩) l) (m : Nat) : Reads w (some ⟨b, o + m * 3, none⟩) (l.drop m) := fun j hj => by
  obtain ⟨b', o', e, hc⟩ := h (m + j) (by simp at hj; omega)
  obtain ⟨rfl, rfl⟩ : b = b' ∧ o = o' := by simpa using e
  refine ⟨b, o + m * 3, rfl, ?_⟩
  rw [List.getElem_drop]
  have e2 : o + m * 3 + j * 3 = o + (m + j) * 3 := by omega
  rw [e2]; exact hc
/-- What a row of the call's own holds reads as its cells. -/
theorem Reads.of_row {w : World} {base cap : Nat} {A : Option Addr} {e : TypeId} {l : List CellD} (h : w.ownsRow base e 3 (.slice A l.length cap) l.length (encs l)) : Reads w A l := by
  intro j hj
  rcases h.2 with ⟨h', h0⟩ | ⟨g, cap', cur, h', _⟩
  · omega
  · obtain ⟨rfl, rfl⟩ : A = some ⟨g, 0, none⟩ ∧ cap = cap' := by simpa using h'
    obtain ⟨e0, e1, e2⟩ := encs_at l j hj
    refine ⟨g, 0, rfl, ?_, ?_, ?_⟩
    · rw [Nat.zero_add, h.cellAt _ (by omega)]; exact e0
    · rw [Nat.zero_add, h.cellAt _ (by omega)]; exact e1
    · rw [Nat.zero_add, h.cellAt _ (by omega)]; exact e2
/-- The flat cells behind an address, as append and copy ask them. -/
theorem Reads.flat {w : World} {b o : Nat} {l : List CellD} (h : Reads w (some ⟨b, o, none⟩) l) : ∀ j u, (encs l)[j]? = some u → w.cell? ((⟨b, o, none⟩ : Addr).add j) = some u := by
  intro j u hj
  have hlt : j < (encs l).length := (List.getElem?_eq_some_iff.1 hj).1
  rw [encs_length] at hlt
  have e : ((⟨b, o, none⟩ : Addr).add j) = ⟨b, o + j, none⟩ := by unfold Addr.add; split <;> simp_all
  rw [e]
  obtain ⟨b', o', e', hc⟩ := h (j / 3) (by omega)
  obtain ⟨rfl, rfl⟩ : b = b' ∧ o = o' := by simpa using e'
  obtain ⟨e0, e1, e2⟩ := encs_at l (j / 3) (by omega)
  have hm : j % 3 = 0 ∨ j % 3 = 1 ∨ j % 3 = 2 := by omega
  rcases hm with hm | hm | hm
  · have ej : j = j / 3 * 3 := by omega
    rw [ej] at hj
    rw [ej, hc.1, ← hj, e0]
  · have ej : j = j / 3 * 3 + 1 := by omega
    rw [ej] at hj
    have e3 : o + j = o + j / 3 * 3 + 1 := by omega
    rw [e3, hc.2.1, ← hj, e1]
  · have ej : j = j / 3 * 3 + 2 := by omega
    rw [ej] at hj
    have e3 : o + j = o + j / 3 * 3 + 2 := by omega
    rw [e3, hc.2.2, ← hj, e2]
theorem row_slice {w : World} {base n : Nat} {e : TypeId} {size : Nat} {v : Value} {xs : List Value} (h : w.ownsRow base e size v n xs) : ∃ A c, v = .slice A n c := by
  rcases h.2 with ⟨rfl, rfl⟩ | ⟨g, cap, cur, rfl, _⟩
  · exact ⟨none, 0, rfl⟩
  · exact ⟨_, cap, rfl⟩
theorem row_below {w w1 : World} {base n : Nat} {e : TypeId} {size : Nat} {v : Value} {xs : List Value} (h : w.ownsRow base e size v n xs) (hB : Below w.heap.size w w1) : w1.ownsRow base e size v n xs :=
  h.kept (grown_below hB none) (by cases v.ownBlock <;> simp)
theorem row_base {w : World} {base n : Nat} {e : TypeId} {size : Nat} {v : Value} {xs : List Value} (h : w.ownsRow base e size v n xs) (k : Nat) (hk : v.ownBlock = some k) : base ≤ k := by
  rcases h.2 with ⟨rfl, _⟩ | ⟨g, cap, cur, rfl, hb, _⟩
  · simp [Value.ownBlock] at hk
  · have : g = k := by simpa [Value.ownBlock] using hk
    omega
theorem row_lt {w : World} {base n : Nat} {e : TypeId} {size : Nat} {v : Value} {xs : List Value} (h : w.ownsRow base e size v n xs) (k : Nat) (hk : v.ownBlock = some k) : k < w.heap.size := by
  rcases h.2 with ⟨rfl, _⟩ | ⟨g, cap, cur, rfl, hb, hh, _⟩
  · simp [Value.ownBlock] at hk
  · have : g = k := by simpa [Value.ownBlock] using hk
    subst this
    exact lt_of_block hh
theorem row_mono {w : World} {base base' n : Nat} {e : TypeId} {size : Nat} {v : Value} {xs : List Value} (h : w.ownsRow base e size v n xs) (hb : base' ≤ base) : w.ownsRow base' e size v n xs :=
  ⟨h.1, h.2.imp id (fun ⟨g, cap, cur, a, b, r⟩ => ⟨g, cap, cur, a, by omega, r⟩)⟩
theorem row_nil (W : World) (base : Nat) (e : TypeId) (size : Nat) : W.ownsRow base e size (.slice none 0 0) 0 [] := ⟨by simp, .inl ⟨rfl, rfl⟩⟩
theorem row_cap {w : World} {base n cap : Nat} {e : TypeId} {size : Nat} {A : Option Addr} {xs : List Value} (h : w.ownsRow base e size (.slice A n cap) n xs) : n ≤ cap := by
  rcases h.2 with ⟨h', rfl⟩ | ⟨g, cap', cur, h', _, _, hc, _⟩
  · omega
  · obtain ⟨_, rfl⟩ : A = some ⟨g, 0, none⟩ ∧ cap = cap' := by simpa using h'
    exact hc
theorem ret_int {k : IntKind} {a b : Int} (h : a = b) : Ending.returned (.int k a) = .returned (.int k b) := by rw [h]
theorem ret_ii {a b c d : Int} (h : a = c) (h2 : b = d) : Ending.returned (.tuple #[.int .i64 a, .int .i64 b]) = .returned (.tuple #[.int .i64 c, .int .i64 d]) := by rw [h, h2]
end Go.Proofs.YtefpolgflimlgaaDoor.Tm
