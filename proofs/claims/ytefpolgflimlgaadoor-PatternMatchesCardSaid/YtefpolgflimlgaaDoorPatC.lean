/- caught: the deferred call that turns a fault into an answer. -/
import Derived.Test.YtefpolgflimlgaaDoorRows
import Derived.Test.YtefpolgflimlgaaDoorBase
import Derived.Tactics
import Derived.Tactics2
import Derived.Defers
import Derived.Recover
import Derived.Laws.Pointers
import Derived.RegionTactic
import Derived.WalkLawsBesides
import Derived.KernelRfl
import Derived.Outline
import Derived.Handy
import Derived.Lib.Hide
namespace Go.Proofs.YtefpolgflimlgaaDoor.Tm
open Go.RowKit
set_option linter.unusedVariables false
set_option linter.unusedSimpArgs false

abbrev faultV (why at_ : Int) : Value := .iface 147 (.agg #[.int .i64 why, .int .i64 at_])
set_option maxRecDepth 100000 in
set_option maxHeartbeats 1000000 in
theorem caught_panic (p q : Nat) (why at_ a b : Int) (older : List PanicEntry) (w : World) (hne : p ≠ q) (h0 : w.cell? ⟨p, 0, none⟩ = some (.int .i64 a)) (h1 : w.cell? ⟨q, 0, none⟩ = some (.int .i64 b)) (f0 : w.frozen? ⟨p, 0, none⟩ = false) (f1 : w.frozen? ⟨q, 0, none⟩ = false) :
    CallsD Tryd.prog 131 #[.pointer (some ⟨p, 0, none⟩), .pointer (some ⟨q, 0, none⟩)] (.panicking ({ v := faultV why at_, recovered := false } :: older)) w fun e u' w' =>
      e = .returned (.tuple #[]) ∧ u' = .panicking ({ v := faultV why at_, recovered := true } :: older) ∧ w'.cell? ⟨p, 0, none⟩ = some (.int .i64 why) ∧ w'.cell? ⟨q, 0, none⟩ = some (.int .i64 at_) ∧ ∀ B, B ≤ p → B ≤ q → B ≤ w.heap.size → Below B w w' := by
  have hta : ∀ W : World, (Instr.typeAssert (faultV why at_) 20 147 true).run Tryd.prog W = .ok (.tuple #[.agg #[.int .i64 why, .int .i64 at_], .bool true]) W := fun W => by kernel_rfl
  refine callsD_of_wpS Tryd.func131 rfl fun c₀ cs hu => ?_
  apply wpS_seq
  apply wpS_region
  simp only [Tryd.ntmps131, List.size_toArray, List.length_cons, List.length_nil, Nat.reduceAdd, Nat.reduceSub, Array.replicate_succ, Array.replicate_zero, List.push_toArray, List.append_toArray, List.nil_append, List.cons_append]
  simp [wpOpsS, go_sem, recoverD, hu, Exit.thenS]
  refine wpS_of_wp ?_
  go_wp2_with fail
  have hb := below_one w (.cells #[.int .i64 why, .int .i64 at_] 147)
  have k0 := cell_below hb h0
  have k1 := cell_below hb h1
  have g0 := (hb.frozen (cell_lt h0)).trans f0
  have g1 := (hb.frozen (cell_lt h1)).trans f1
  have n0 : (w.alloc (.cells #[.int .i64 why, .int .i64 at_] 147)).cell? ⟨w.heap.size, 0, none⟩ = some (.int .i64 why) := by go_cell
  have n1 : (w.alloc (.cells #[.int .i64 why, .int .i64 at_] 147)).cell? ⟨w.heap.size, 1, none⟩ = some (.int .i64 at_) := by go_cell
  have l0 : p < w.heap.size := cell_lt h0
  have l1 : q < w.heap.size := cell_lt h1
  have d0 : ¬ p = w.heap.size := by omega
  have d1 : ¬ q = w.heap.size := by omega
  have d2 : ¬ q = p := fun e => hne e.symm
  have d3 : ¬ w.heap.size = p := by omega
  have d4 : ¬ w.heap.size = q := by omega
  have HB := Lib.hid hb
  clear hb h0 h1 f0 f1 hta
  generalize w.alloc (.cells #[.int .i64 why, .int .i64 at_] 147) = W1 at *
  generalize w.heap.size = z at *
  go_region
  go_wp2
  simp [bodyPostS, results, Tryd.results131]
  have e0 : (⟨p, 0, none⟩ : Addr) ≠ ⟨q, 0, none⟩ := fun e => hne (by injection e)
  refine ⟨?_, ?_, fun B b0 b1 b2 => ?_⟩
  · rw [World.cell?_setCell_other _ _ _ _ (fun e => e0 (by first | exact e | exact e.symm))]
    exact World.cell?_setCell_same _ _ _ k0
  · exact World.cell?_setCell_same _ _ _ (u := .int .i64 b) (by rw [World.cell?_setCell_other _ _ _ _ (fun e => e0 (by first | exact e | exact e.symm))]; exact k1)
  · exact (((HB.out.mono (by omega)).setCell (p := ⟨p, 0, none⟩) b0 _).setCell (p := ⟨q, 0, none⟩) b1 _).drew
set_option maxRecDepth 100000 in
set_option maxHeartbeats 1000000 in
theorem caught_idle (p q : Nat) (w : World) :
    CallsD Tryd.prog 131 #[.pointer (some ⟨p, 0, none⟩), .pointer (some ⟨q, 0, none⟩)] .returning w fun e u' w' => e = .returned (.tuple #[]) ∧ u' = .returning ∧ w = w' := by
  refine callsD_of_wpS Tryd.func131 rfl fun c₀ cs hu => ?_
  apply wpS_seq
  apply wpS_region
  simp only [Tryd.ntmps131, List.size_toArray, List.length_cons, List.length_nil, Nat.reduceAdd, Nat.reduceSub, Array.replicate_succ, Array.replicate_zero, List.push_toArray, List.append_toArray, List.nil_append, List.cons_append]
  simp [wpOpsS, go_sem, recoverD, hu, Exit.thenS]
  refine wpS_of_wp ?_
  go_wp2
  cases c₀
  simp_all [bodyPostS, results, Tryd.results131]
end Go.Proofs.YtefpolgflimlgaaDoor.Tm
