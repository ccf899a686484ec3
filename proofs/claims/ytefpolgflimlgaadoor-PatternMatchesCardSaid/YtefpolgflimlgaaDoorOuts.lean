/- Sixteen registers in memory of the call's own. -/
import Derived.Test.YtefpolgflimlgaaDoorPatM
namespace Go.Proofs.YtefpolgflimlgaaDoor.Tm
open Go.RowKit
set_option linter.unusedVariables false
set_option linter.unusedSimpArgs false

/-- A row of the call's own: a term. -/
def RowIs (W : World) (base : Nat) (A : Option Addr) (c : Nat) (l : List CellD) : Prop := W.ownsRow base 32 3 (.slice A l.length c) l.length (encs l)
structure Outs (W : World) (base og : Nat) (vs : Array Value) (R : List (List CellD)) : Prop where
  blk : W.heap[og]? = some (.cells vs 22 (0, 0))
  low : base ≤ og
  each : Each (RowIs W base) vs.toList R
  apart : ∀ i j (hi : i < vs.size) (hj : j < vs.size), i ≠ j → (vs[i]).ownBlock = none ∨ (vs[i]).ownBlock ≠ (vs[j]).ownBlock
section
variable {W V : World} {base og : Nat} {vs : Array Value} {R : List (List CellD)}
theorem Outs.lt (h : Outs W base og vs R) : og < W.heap.size := lt_of_block h.blk
theorem Outs.size (h : Outs W base og vs R) : vs.size = R.length := by have := h.each.1; simpa using this
theorem Outs.below (h : Outs W base og vs R) (hB : Below W.heap.size W V) : Outs V base og vs R :=
  ⟨(hB.block _ h.lt).trans h.blk, h.low, h.each.mono fun A c l p => row_below p hB, h.apart⟩
theorem Outs.val (h : Outs W base og vs R) {n : Nat} (hn : n < R.length) : ∃ A c, vs[n]? = some (.slice A R[n].length c) ∧ RowIs W base A c R[n] := by
  obtain ⟨A, c, e, p⟩ := h.each.2 n hn
  exact ⟨A, c, by simpa using e, p⟩
theorem Outs.cell (h : Outs W base og vs R) {n : Nat} (hn : n < R.length) : ∃ A c, W.cell? ⟨og, n, none⟩ = some (.slice A R[n].length c) ∧ RowIs W base A c R[n] := by
  obtain ⟨A, c, e, p⟩ := h.val hn
  exact ⟨A, c, by simp [World.cell?, h.blk, e], p⟩
theorem Outs.free (h : Outs W base og vs R) (n : Nat) : W.frozen? ⟨og, n, none⟩ = false := by simp [World.frozen?, h.blk]
theorem RowIs.reads {A : Option Addr} {c : Nat} {l : List CellD} (h : RowIs W base A c l) : l.length ≤ c ∧ Reads W A l := ⟨row_cap h, Reads.of_row h⟩
theorem Outs.reads (h : Outs W base og vs R) : Reads2 W (some ⟨og, 0, none⟩) R := fun j hj => by
  obtain ⟨A, c, e, p⟩ := h.cell hj
  exact ⟨og, 0, rfl, A, c, by rw [Nat.zero_add]; exact e, p.reads.1, p.reads.2⟩
theorem row_not_outs {A : Option Addr} {c n : Nat} {b : Nat} {l : List Value} (h : W.heap[og]? = some (.cells vs 22 (0, 0))) (k : W.ownsRow b 32 3 (.slice A n c) n l) : (Value.slice A n c).ownBlock = none ∨ (Value.slice A n c).ownBlock ≠ some og := by
  rcases k.2 with ⟨e, _⟩ | ⟨g, cap, cur, e, _, hh, _⟩
  · rw [e]; exact .inl rfl
  · right
    rw [e]
    intro e2
    have : g = og := by simpa [Value.ownBlock] using e2
    subst this
    rw [h] at hh
    injection hh with hh
    injection hh with _ ht
    exact absurd ht (by decide)
theorem Outs.set_ (h : Outs W base og vs R) (hB : Below W.heap.size W V) {n : Nat} (hn : n < R.length) {A : Option Addr} {c : Nat} {l : List CellD} (hr : V.ownsRow W.heap.size 32 3 (.slice A l.length c) l.length (encs l)) (hb : base ≤ W.heap.size) :
    Outs (V.setCell ⟨og, n, none⟩ (.slice A l.length c)) base og (vs.setIfInBounds n (.slice A l.length c)) (R.set n l) := by
  have hV := h.below hB
  have hsz := h.size
  have hgr := grown_setCell V og n (.slice A l.length c)
  have keep : ∀ A' c' l', RowIs V base A' c' l' → RowIs (V.setCell ⟨og, n, none⟩ (.slice A l.length c)) base A' c' l' := fun A' c' l' p => World.ownsRow.kept p hgr (row_not_outs hV.blk p)
  refine ⟨heap_setCell_self hV.blk, h.low, ⟨by simp [hsz], fun j hj => ?_⟩, fun i j hi hj hij => ?_⟩
  · have hj' : j < R.length := by simpa using hj
    by_cases e : j = n
    · subst e
      refine ⟨A, c, ?_, ?_⟩
      · rw [Array.toList_setIfInBounds, List.getElem?_set_self (by simp; omega), List.getElem_set_self]
      · rw [List.getElem_set_self]
        exact keep _ _ _ (row_mono hr hb)
    · obtain ⟨A', c', e', p⟩ := hV.each.2 j hj'
      have e3 : (R.set n l)[j] = R[j] := List.getElem_set_ne (fun h => e h.symm) _
      refine ⟨A', c', ?_, ?_⟩
      · rw [Array.toList_setIfInBounds, List.getElem?_set_ne (fun h => e h.symm), e3]; exact e'
      · rw [e3]; exact keep _ _ _ p
  · have hi' : i < vs.size := by simpa using hi
    have hj' : j < vs.size := by simpa using hj
    have old : ∀ k (hk : k < vs.size), (vs[k]).ownBlock = none ∨ ∃ g, (vs[k]).ownBlock = some g ∧ g < W.heap.size := fun k hk => by
      obtain ⟨A', c', e', p⟩ := h.val (n := k) (by omega)
      have e2 : vs[k] = .slice A' R[k].length c' := by
        rw [Array.getElem?_eq_getElem hk] at e'
        injection e'
      rw [e2]
      cases hg : (Value.slice A' R[k].length c').ownBlock with
      | none => exact .inl rfl
      | some g => exact .inr ⟨g, rfl, row_lt p g hg⟩
    have new : ∀ g, (Value.slice A l.length c).ownBlock = some g → W.heap.size ≤ g := fun g hg => row_base hr g hg
    rw [Array.getElem_setIfInBounds, Array.getElem_setIfInBounds]
    by_cases ei : n = i
    · rw [if_pos ei]
      have ej : ¬ n = j := fun e => hij (by omega)
      rw [if_neg ej]
      cases hg : (Value.slice A l.length c).ownBlock with
      | none => exact .inl rfl
      | some g =>
        right
        have := new g hg
        rcases old j hj' with e | ⟨g', e, hl⟩
        · rw [e]; simp
        · rw [e]; intro e2; injection e2; omega
    · rw [if_neg ei]
      by_cases ej : n = j
      · rw [if_pos ej]
        rcases old i hi' with e | ⟨g', e, hl⟩
        · exact .inl e
        · right
          rw [e]
          intro e2
          have := new g' e2.symm
          omega
      · rw [if_neg ej]
        exact h.apart i j hi' hj' hij
end
def nils16 : Array Value := #[.slice none 0 0, .slice none 0 0, .slice none 0 0, .slice none 0 0, .slice none 0 0, .slice none 0 0, .slice none 0 0, .slice none 0 0, .slice none 0 0, .slice none 0 0, .slice none 0 0, .slice none 0 0, .slice none 0 0, .slice none 0 0, .slice none 0 0, .slice none 0 0]
/-- Sixteen registers, none set. -/
theorem Outs.new (w : World) : Outs (w.alloc (.cells nils16 22)) w.heap.size w.heap.size nils16 (List.replicate 16 []) := by
  refine ⟨heap_new w _, Nat.le_refl _, ⟨rfl, fun j hj => ?_⟩, fun i j hi hj _ => ?_⟩
  · have hj' : j < 16 := by simpa using hj
    refine ⟨none, 0, ?_, ?_⟩
    · have h : j = 0 ∨ j = 1 ∨ j = 2 ∨ j = 3 ∨ j = 4 ∨ j = 5 ∨ j = 6 ∨ j = 7 ∨ j = 8 ∨ j = 9 ∨ j = 10 ∨ j = 11 ∨ j = 12 ∨ j = 13 ∨ j = 14 ∨ j = 15 := by omega
      rcases h with rfl | rfl | rfl | rfl | rfl | rfl | rfl | rfl | rfl | rfl | rfl | rfl | rfl | rfl | rfl | rfl <;> rfl
    · have e : (List.replicate 16 ([] : List CellD))[j] = [] := by rw [List.getElem_replicate]
      rw [e]
      exact row_nil _ _ _ _
  · left
    have hi' : i < 16 := by have : nils16.size = 16 := rfl; omega
    have h : i = 0 ∨ i = 1 ∨ i = 2 ∨ i = 3 ∨ i = 4 ∨ i = 5 ∨ i = 6 ∨ i = 7 ∨ i = 8 ∨ i = 9 ∨ i = 10 ∨ i = 11 ∨ i = 12 ∨ i = 13 ∨ i = 14 ∨ i = 15 := by omega
    rcases h with rfl | rfl | rfl | rfl | rfl | rfl | rfl | rfl | rfl | rfl | rfl | rfl | rfl | rfl | rfl | rfl <;> rfl
/-- The registers that have been taken over. -/
def regsTo (x : List (List CellD)) (k : Nat) : List (List CellD) := (List.range 16).map fun n => if n < k then regD x ((n : Nat) : Int) else []
theorem regsTo_len (x : List (List CellD)) (k : Nat) : (regsTo x k).length = 16 := by simp [regsTo]
theorem regsTo_zero (x : List (List CellD)) : regsTo x 0 = List.replicate 16 [] := rfl
theorem regsTo_set (x : List (List CellD)) {k : Nat} (h : k < 16) : (regsTo x k).set k (regD x (k : Int)) = regsTo x (k + 1) := by
  refine List.ext_getElem (by simp [regsTo]) fun j h1 h2 => ?_
  have hj : j < 16 := by simpa [regsTo] using h2
  rw [List.getElem_set]
  simp only [regsTo, List.getElem_map, List.getElem_range]
  by_cases e : k = j
  · subst e; rw [if_pos rfl, if_pos (by omega)]
  · rw [if_neg e]
    by_cases l : j < k
    · rw [if_pos l, if_pos (by omega)]
    · rw [if_neg l, if_neg (by omega)]
theorem regsTo_all {x : List (List CellD)} {k : Nat} (h : x.length ≤ k) : regsTo x k = regs16 x := by
  unfold regsTo regs16
  refine List.map_congr_left fun n _ => ?_
  split
  · rfl
  · rw [regD_out (by omega)]
end Go.Proofs.YtefpolgflimlgaaDoor.Tm
