/- The memory of sweep's reached. -/
import Derived.Test.YthgnihckeckaiaaDoorDpM
import Derived.Test.YthgnihckeckaiaaDoorSwP
import Derived.Test.YthgnihckeckaiaaDoorSwW
namespace Go.Proofs.YthgnihckeckaiaaDoor.Tm
open Go.RowKit
set_option linter.unusedVariables false
set_option linter.unusedSimpArgs false

structure SwRep (w wr : World) (bm : Nat) (mm mo sB : List Int) (vM vS : Value) : Prop where
  base : Below w.heap.size w wr
  lob : w.heap.size ≤ bm
  map : wr.heap[bm]? = some (.map (entsM mm) mm.length)
  out : wr.ownsRow w.heap.size 27 1 vM mo.length (encW mo)
  stk : wr.ownsRow w.heap.size 27 1 vS sB.length (encW sB)
  ne : ∀ k, vM.ownBlock = some k → vS.ownBlock ≠ some k
  nbM : vM.ownBlock ≠ some bm
  nbS : vS.ownBlock ≠ some bm
theorem SwRep.mapLt {w wr : World} {bm : Nat} {mm mo sB : List Int} {vM vS : Value} (h : SwRep w wr bm mm mo sB vM vS) : bm < wr.heap.size := lt_of_block h.map
theorem SwRep.below {w wr w' : World} {bm : Nat} {mm mo sB : List Int} {vM vS : Value} (h : SwRep w wr bm mm mo sB vM vS) (hB : Below wr.heap.size wr w') : SwRep w w' bm mm mo sB vM vS :=
  ⟨below_then h.base hB, h.lob, (hB.block _ h.mapLt).trans h.map, row_below h.out hB, row_below h.stk hB, h.ne, h.nbM, h.nbS⟩
theorem SwRep.last {w wr : World} {bm : Nat} {mm mo sB : List Int} {y : Int} {vM vS : Value} (h : SwRep w wr bm mm mo (sB ++ [y]) vM vS) :
    ∃ g cap, vS = .slice (some ⟨g, 0, none⟩) (sB.length + 1) cap ∧ sB.length + 1 ≤ cap ∧ wr.cell? ⟨g, sB.length, none⟩ = some (.int .u64 y) := by
  have hr := h.stk
  rw [List.length_append, List.length_singleton, encW_snoc] at hr
  rcases hr.2 with ⟨_, h0⟩ | ⟨g, cap, cur, rfl, _, _, hc, _⟩
  · omega
  · refine ⟨g, cap, rfl, hc, ?_⟩
    rw [hr.cellAt _ (by omega), List.getElem?_append_right (by rw [encW_len]; omega), encW_len]
    simp
theorem SwRep.pop {w wr : World} {bm : Nat} {mm mo sB : List Int} {y : Int} {vM : Value} {g cap : Nat} (h : SwRep w wr bm mm mo (sB ++ [y]) vM (.slice (some ⟨g, 0, none⟩) (sB.length + 1) cap)) : SwRep w wr bm mm mo sB vM (.slice (some ⟨g, 0, none⟩) sB.length cap) := by
  have hr := h.stk
  rw [List.length_append, List.length_singleton, encW_snoc] at hr
  exact ⟨h.base, h.lob, h.map, h.out, ownsRow_pop (encW_len sB) hr, h.ne, h.nbM, h.nbS⟩
theorem SwRep.push {w wr wa w' : World} {bm : Nat} {mm mo sB : List Int} {vM vS v' : Value} (h : SwRep w wr bm mm mo sB vM vS) (hB : Below wr.heap.size wr wa) (hg : wa.grownBy w' vS.ownBlock) {y : Int}
    (hrow : w'.ownsRow w.heap.size 27 1 v' (sB.length + 1) (encW sB ++ [.int .u64 y])) (hat : v'.ownBlock = vS.ownBlock ∨ v'.ownBlock = some wa.heap.size) : SwRep w w' bm mm mo (sB ++ [y]) vM v' := by
  have h := h.below hB
  refine ⟨below_grown h.base hg (row_base h.stk), h.lob, (hg.block bm h.mapLt (fun e => h.nbS e.symm)).trans h.map, h.out.kept hg ?_, ?_, fun k hk e => ?_, h.nbM, fun e => ?_⟩
  · cases hv : vM.ownBlock with
    | none => exact .inl rfl
    | some k => exact .inr (fun e => h.ne k hv e.symm)
  · rw [List.length_append, List.length_singleton, encW_snoc]
    exact hrow
  · rcases hat with h' | h'
    · exact h.ne k hk (h' ▸ e)
    · rw [e] at h'
      injection h' with h'
      have := row_lt h.out k hk; omega
  · rcases hat with h' | h'
    · exact h.nbS (h' ▸ e)
    · rw [e] at h'
      injection h' with h'
      have := h.mapLt; omega
theorem SwRep.more {w wr wa w' : World} {bm : Nat} {mm mo sB : List Int} {vM vS v' : Value} (h : SwRep w wr bm mm mo sB vM vS) (hB : Below wr.heap.size wr wa) (hg : wa.grownBy w' vM.ownBlock) {y : Int}
    (hrow : w'.ownsRow w.heap.size 27 1 v' (mo.length + 1) (encW mo ++ [.int .u64 y])) (hat : v'.ownBlock = vM.ownBlock ∨ v'.ownBlock = some wa.heap.size) : SwRep w w' bm mm (mo ++ [y]) sB v' vS := by
  have h := h.below hB
  refine ⟨below_grown h.base hg (row_base h.out), h.lob, (hg.block bm h.mapLt (fun e => h.nbM e.symm)).trans h.map, ?_, h.stk.kept hg ?_, fun k hk e => ?_, fun e => ?_, h.nbS⟩
  · rw [List.length_append, List.length_singleton, encW_snoc]
    exact hrow
  · cases hv : vS.ownBlock with
    | none => exact .inl rfl
    | some k => exact .inr (fun e => h.ne k e.symm hv)
  · rcases hat with h' | h'
    · exact h.ne k (h' ▸ hk) e
    · rw [hk] at h'
      injection h' with h'
      have := row_lt h.stk k e; omega
  · rcases hat with h' | h'
    · exact h.nbM (h' ▸ e)
    · rw [e] at h'
      injection h' with h'
      have := h.mapLt; omega
theorem SwRep.meet {w wr w' : World} {bm : Nat} {mm mo sB : List Int} {x : Int} {vM vS : Value} (h : SwRep w wr bm mm mo sB vM vS) (hm : w'.heap[bm]? = some (.map (entsM (mm ++ [x])) (mm ++ [x]).length)) (hg : wr.grownBy w' (some bm)) : SwRep w w' bm (mm ++ [x]) mo sB vM vS := by
  have block : ∀ k, k < wr.heap.size → k ≠ bm → w'.heap[k]? = wr.heap[k]? := fun k hk hne => hg.block k hk (fun e => hne (by injection e))
  exact ⟨below_grown h.base hg (fun k e => by injection e with e; subst e; exact h.lob), h.lob, hm, row_of_block h.out (fun k hk => block k (row_lt h.out k hk) (fun e => h.nbM (e ▸ hk))), row_of_block h.stk (fun k hk => block k (row_lt h.stk k hk) (fun e => h.nbS (e ▸ hk))), h.ne, h.nbM, h.nbS⟩
/-- A row that was made aside stays. -/
def AwayV (A : Option Addr) (v : Value) : Prop := ∀ g o, A = some ⟨g, o, none⟩ → v.ownBlock ≠ some g
theorem WReads.grown {w w' : World} {A : Option Addr} {l : List Int} {v : Value} (h : WReads w A l) (hg : w.grownBy w' v.ownBlock) (ha : AwayV A v) : WReads w' A l := fun j hj => by
  obtain ⟨b, o, e, hc⟩ := h j hj
  exact ⟨b, o, e, (cell_of_same (a := ⟨b, o + j, none⟩) (hg.block b (cell_lt hc) (fun q => ha b o e q.symm))).trans hc⟩
theorem AwayV.next {A : Option Addr} {v v' : Value} {n : Nat} (h : AwayV A v) (hl : ∀ g o, A = some ⟨g, o, none⟩ → g < n) (hat : v'.ownBlock = v.ownBlock ∨ v'.ownBlock = some n) : AwayV A v' := fun g o e q => by
  rcases hat with h' | h'
  · exact h g o e (h' ▸ q)
  · rw [q] at h'
    injection h' with h'
    have := hl g o e; omega
end Go.Proofs.YthgnihckeckaiaaDoor.Tm
