/- Rows of the call's own, and what is spared. -/
import Derived.Test.YtfeaolnklooanaaDoorMid
namespace Go.Proofs.YtfeaolnklooanaaDoor.Tm
open Go.RowKit
set_option linter.unusedVariables false
set_option linter.unusedSimpArgs false

/-- A row of the call's own: a term. -/
def RowIs (W : World) (base : Nat) (A : Option Addr) (c : Nat) (l : List CellD) : Prop := W.ownsRow base 47 3 (.slice A l.length c) l.length (encs l)
theorem RowIs.reads {W : World} {base : Nat} {A : Option Addr} {c : Nat} {l : List CellD} (h : RowIs W base A c l) : l.length ≤ c ∧ Reads W A l := ⟨row_cap h, Reads.of_row h⟩
theorem row_aside2 {w W : World} {base n : Nat} {e : TypeId} {size : Nat} {v : Value} {xs : List Value} {row : Option Nat} (h : w.ownsRow base e size v n xs) (g : w.grownBy W row) (hb : ∀ k, row = some k → k < base) : W.ownsRow base e size v n xs :=
  h.kept g (by
    cases hv : v.ownBlock with
    | none => exact .inl rfl
    | some k =>
      right
      intro e'
      have h1 := row_base h k hv
      have h2 := hb k e'.symm
      omega)
/-- What lies outside the blocks from lo up to hi is as it was. -/
structure Spared (lo hi : Nat) (w V : World) : Prop where
  bel : Below lo w V
  row : ∀ (base n : Nat) (e : TypeId) (s : Nat) (v : Value) (xs : List Value), hi ≤ base → w.ownsRow base e s v n xs → V.ownsRow base e s v n xs
  blk : ∀ i, i < w.heap.size → hi ≤ i → V.heap[i]? = w.heap[i]?
theorem Spared.refl (lo hi : Nat) (w : World) : Spared lo hi w w := ⟨Below.refl _ _, fun _ _ _ _ _ _ _ h => h, fun _ _ _ => rfl⟩
theorem Spared.next {lo hi : Nat} {w W V : World} (h : Spared lo hi w W) (hlo : lo ≤ w.heap.size) {row : Option Nat} (g : W.grownBy V row) (hr : ∀ k, row = some k → lo ≤ k ∧ k < hi) : Spared lo hi w V :=
  ⟨h.bel.grown g (by have := h.bel.size; omega) (fun k e => (hr k e).1), fun base n e s v xs hb k => row_aside2 (h.row base n e s v xs hb k) g (fun k e => by have := (hr k e).2; omega),
   fun i hi' hh => (g.block i (by have := h.bel.size; omega) (fun e => by have := (hr i e.symm).2; omega)).trans (h.blk i hi' hh)⟩
/-- A call answers cells in memory, and a number. -/
def TermPost (w : World) (r : List CellD × Int) (e : Ending) (w' : World) : Prop := ∃ A c, e = .returned (.tuple #[.slice A r.1.length c, .int .i64 r.2]) ∧ r.1.length ≤ c ∧ Reads w' A r.1 ∧ Below w.heap.size w w'
theorem TermPost.no {w w' : World} {k : Int} {r : List CellD × Int} (h : r = ([], k)) (hB : Below w.heap.size w w') : TermPost w r (.returned (.tuple #[.slice none 0 0, .int .i64 k])) w' := by
  subst h
  exact ⟨none, 0, rfl, Nat.le_refl _, Reads.nil _ _, hB⟩
end Go.Proofs.YtfeaolnklooanaaDoor.Tm
