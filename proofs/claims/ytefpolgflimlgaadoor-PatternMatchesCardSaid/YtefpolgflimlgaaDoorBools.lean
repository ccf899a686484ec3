/- Arrays of sixteen bools. -/
import Derived.Test.YtefpolgflimlgaaDoorPatX
import Derived.Test.YtefpolgflimlgaaDoorMid
import Derived.KernelRfl
import Derived.Laws.Rows
namespace Go.Proofs.YtefpolgflimlgaaDoor.Tm
open Go.RowKit
set_option linter.unusedVariables false
set_option linter.unusedSimpArgs false

def boolsF (f : Int → Bool) : Array Value := ((List.range 16).map fun n => Value.bool (f ((n : Nat) : Int))).toArray
def regK (k : Int) (x : CellD) (n : Int) : Bool := decide (x.kind = k) && decide (x.n = n)
theorem boolsF_at {f : Int → Bool} {m : Nat} (h : m < 16) : (boolsF f)[m]? = some (.bool (f (m : Int))) := by
  unfold boolsF
  rw [List.getElem?_toArray, List.getElem?_map, List.getElem?_range h]; rfl
theorem boolsF_set {f : Int → Bool} {k : Int} {x : CellD} {m : Nat} (h : m < 16) (hk : x.kind = k) (e : x.n = m) : (boolsF f).setIfInBounds m (.bool true) = boolsF (fun n => f n || regK k x n) := by
  apply Array.toList_inj.1
  rw [Array.toList_setIfInBounds]
  show (List.map _ _).set m _ = List.map _ _
  refine List.ext_getElem? fun i => ?_
  rw [List.getElem?_set]
  by_cases hi : m = i
  · subst hi
    rw [if_pos rfl, if_pos (by simp; exact h), List.getElem?_map, List.getElem?_range h]
    simp [regK, e, hk]
  · rw [if_neg hi, List.getElem?_map, List.getElem?_map]
    by_cases h16 : i < 16
    · rw [List.getElem?_range h16]
      have : ¬ x.n = (i : Int) := by omega
      simp [regK, this]
    · rw [List.getElem?_eq_none (by simp; omega)]; rfl
theorem boolsF_congr {f g : Int → Bool} (h : ∀ n : Nat, n < 16 → f (n : Int) = g (n : Int)) : boolsF f = boolsF g := by
  unfold boolsF
  congr 1
  exact List.map_congr_left fun n hn => by rw [h n (by simpa using hn)]
theorem boolsF_same {f : Int → Bool} {k : Int} {x : CellD} (h : ¬ (x.kind = k ∧ 0 ≤ x.n ∧ x.n < 16)) : boolsF (fun n => f n || regK k x n) = boolsF f := by
  refine boolsF_congr fun n hn => ?_
  have : regK k x (n : Int) = false := by
    unfold regK
    rw [Bool.and_eq_false_iff]
    by_cases e : x.kind = k
    · right
      rw [decide_eq_false_iff_not]
      intro e2
      exact h ⟨e, by omega, by omega⟩
    · left
      exact decide_eq_false e
  rw [this, Bool.or_false]
theorem run_index_array {P : Program} (w : World) (t e : TypeId) (m : Nat) (cs : Array Value) (n : Nat) (v : Value) (h : P.underlying t = some (.array m e)) (hs : (P.info? e).map (·.size) = some 1) (ha : (isAgg e).run P w = .ok false w) (hn : n < m) (hv : cs[n]? = some v) :
    (Instr.index t (.agg cs) (.int .i64 (n : Int))).run P w = .ok v w := by
  cases hq : P.info? e with
  | none => simp [hq] at hs
  | some i =>
    have hsz : i.size = 1 := by simpa [hq] using hs
    simp [Instr.index, asIntOf, run_underlying h, hn, sizeOf, typeInfo, hq, hsz, part, ha, hv]
theorem run_index_bools (f : Int → Bool) (n : Nat) (hn : n < 16) (W : World) : (Instr.index 148 (.agg (boolsF f)) (.int .i64 (n : Int))).run Tryd.prog W = .ok (.bool (f (n : Int))) W :=
  run_index_array W _ _ _ _ n _ Tryd.underlying148 (by kernel_rfl) (by kernel_rfl) hn (boolsF_at hn)
/-- The array in a block of its own. -/
def BoolsAt (W : World) (b : Nat) (f : Int → Bool) : Prop := W.heap[b]? = some (.cells (boolsF f) 148 (0, 0))
section
variable {W V : World} {b : Nat} {f : Int → Bool}
theorem BoolsAt.lt (h : BoolsAt W b f) : b < W.heap.size := lt_of_block h
theorem BoolsAt.below (h : BoolsAt W b f) (hB : Below W.heap.size W V) : BoolsAt V b f := (hB.block _ h.lt).trans h
theorem BoolsAt.cell (h : BoolsAt W b f) {m : Nat} (hm : m < 16) : W.cell? ⟨b, m, none⟩ = some (.bool (f (m : Int))) := by
  unfold BoolsAt at h
  simp [World.cell?, h, boolsF_at hm]
theorem BoolsAt.free (h : BoolsAt W b f) (m : Nat) : W.frozen? ⟨b, m, none⟩ = false := by
  unfold BoolsAt at h
  simp [World.frozen?, h]
theorem BoolsAt.set_ (h : BoolsAt W b f) {k : Int} {x : CellD} {m : Nat} (hm : m < 16) (hk : x.kind = k) (e : x.n = m) : BoolsAt (W.setCell ⟨b, m, none⟩ (.bool true)) b (fun n => f n || regK k x n) := by
  unfold BoolsAt
  rw [heap_setCell_self h, boolsF_set hm hk e]
theorem BoolsAt.same (h : BoolsAt W b f) {k : Int} {x : CellD} (hx : ¬ (x.kind = k ∧ 0 ≤ x.n ∧ x.n < 16)) : BoolsAt W b (fun n => f n || regK k x n) := by
  unfold BoolsAt
  rw [boolsF_same hx]; exact h
theorem BoolsAt.congr {g : Int → Bool} (h : BoolsAt W b f) (e : f = g) : BoolsAt W b g := e ▸ h
end
theorem bools_new (w : World) (f : Int → Bool) : BoolsAt (w.alloc (.cells (boolsF f) 148)) w.heap.size f := heap_new w _
end Go.Proofs.YtefpolgflimlgaaDoor.Tm
