/- The walk's states. -/
import Derived.Test.YthgnihckeckaiaaDoorCoW
import Derived.Test.YthgnihckeckaiaaDoorDpM
import Derived.Test.YthgnihckeckaiaaDoorDpW
namespace Go.Proofs.YthgnihckeckaiaaDoor.Tm
open Go.RowKit
set_option linter.unusedVariables false
set_option linter.unusedSimpArgs false

structure WalkNow (L : List ObjA) (rest : List Int) (T m : List Int) (st : List (Int × Nat)) : Prop where
  ok : StOk L m st
  met : MetOk L m
  tot : rest.foldl (visW L) (runB L st m) = T
theorem WalkNow.start {L : List ObjA} {rest T m : List Int} {x : Int} (h : WalkNow L (x :: rest) T m []) (hx : FindOk L x) : WalkNow L rest T m [(x, 0)] :=
  ⟨StOk.one hx, h.met, by
    have e : runB L [(x, 0)] m = visW L m x := by
      have := runB_snoc L [] (x, 0) m
      rw [List.nil_append] at this
      rw [this, runB_nil]
      unfold itemW
      rw [if_pos rfl]
    rw [e]
    exact h.tot⟩
theorem WalkNow.pop {L : List ObjA} (hw : WfA L) {rest T m : List Int} {st : List (Int × Nat)} {x : Int} (h : WalkNow L rest T m (st ++ [(x, 0)])) (hp : ptrW x = false ∨ x ∈ m) : WalkNow L rest T m st :=
  ⟨h.ok.pop, h.met, by rw [← run_pop hw st hp]; exact h.tot⟩
theorem WalkNow.pass {L : List ObjA} (hw : WfA L) {rest T m : List Int} {st : List (Int × Nat)} {x : Int} {k : Nat} (h : WalkNow L rest T m (st ++ [(x, k)])) (ho : ptrW x = true ∧ x ∉ m) (hk : k < (partsW L x).length) (hp : ptrW (partsW L x)[k] = false ∨ (partsW L x)[k] ∈ m) : WalkNow L rest T m (st ++ [(x, k + 1)]) :=
  ⟨h.ok.next ho hk, h.met, by rw [run_pass hw st (fun _ => ho) hk hp]; exact h.tot⟩
theorem WalkNow.push {L : List ObjA} (hw : WfA L) {rest T m : List Int} {st : List (Int × Nat)} {x : Int} {k : Nat} (h : WalkNow L rest T m (st ++ [(x, k)])) (ho : ptrW x = true ∧ x ∉ m) (hk : k < (partsW L x).length) (hp : ptrW (partsW L x)[k] = true ∧ (partsW L x)[k] ∉ m) : WalkNow L rest T m ((st ++ [(x, k + 1)]) ++ [((partsW L x)[k], 0)]) :=
  ⟨(h.ok.next ho hk).push hw (List.getElem_mem hk) hp, h.met, by rw [run_push hw st (fun _ => ho) hk]; exact h.tot⟩
theorem WalkNow.done {L : List ObjA} (hw : WfA L) {rest T m : List Int} {st : List (Int × Nat)} {x : Int} {k : Nat} (h : WalkNow L rest T m (st ++ [(x, k)])) (ho : ptrW x = true ∧ x ∉ m) (hk : (partsW L x).length ≤ k) : WalkNow L rest T (m ++ [x]) st := by
  have e : finW m x = m ++ [x] := by unfold finW; rw [if_neg ho.2]
  refine ⟨h.ok.met, ?_, ?_⟩
  · rw [← e]
    exact h.met.fin h.ok.top.1 ho.1
  · have := run_done hw st (fun _ => ho) hk
    rw [e] at this
    rw [this]
    exact h.tot
theorem WalkNow.pre {L : List ObjA} {rest T m : List Int} {st : List (Int × Nat)} (h : WalkNow L rest T m st) : m <+: T := by
  rw [← h.tot]
  exact (run_prefix L st m).trans (fold_prefix (vis_prefix L) rest _)
theorem WalkNow.fin {L : List ObjA} {T m : List Int} (h : WalkNow L [] T m []) : m = T := h.tot
/-- The walk's own memory, and the roots'. -/
structure WalkIn (lo : Nat) (O cs : Nat → Prop) (ba room : Nat) (L : List ObjA) (A : Option Addr) (roots m : List Int) (st : List (Int × Nat)) (v : Value) (wr : World) : Prop where
  rep : WalkRep lo lo O cs ba room L m st v wr
  rd : WReads wr A roots
  ra : ∀ b o, A = some ⟨b, o, none⟩ → b < lo ∧ ¬ cs b
theorem WalkIn.step {lo : Nat} {O cs : Nat → Prop} {ba room : Nat} {L : List ObjA} {A : Option Addr} {roots m m' : List Int} {st st' : List (Int × Nat)} {v v' : Value} {wr w' : World} (h : WalkIn lo O cs ba room L A roots m st v wr) (hr : WalkRep lo lo O cs ba room L m' st' v' w') (hf : Fr (Mine lo cs) wr w') :
    WalkIn lo O cs ba room L A roots m' st' v' w' :=
  ⟨hr, h.rd.fr hf fun g o e hg => by have := (h.ra g o e).1; have := hg.1; omega, h.ra⟩
theorem WalkIn.below {lo : Nat} {O cs : Nat → Prop} {ba room : Nat} {L : List ObjA} {A : Option Addr} {roots m : List Int} {st : List (Int × Nat)} {v : Value} {wr w' : World} (h : WalkIn lo O cs ba room L A roots m st v wr) (hB : Below wr.heap.size wr w') : WalkIn lo O cs ba room L A roots m st v w' :=
  h.step (h.rep.below hB) (Fr.of_below hB)
theorem WalkIn.kept {lo : Nat} {O cs cs' : Nat → Prop} {ba room : Nat} {L : List ObjA} {A : Option Addr} {roots m : List Int} {st : List (Int × Nat)} {v : Value} {wr w' : World} (h : WalkIn lo O cs ba room L A roots m st v wr) (hk : KpG cs cs' wr w') : WalkIn lo O cs' ba room L A roots m st v w' := by
  refine ⟨h.rep.kept hk, fun j hj => ?_, fun b o e => ⟨(h.ra b o e).1, fun hc => ?_⟩⟩
  · obtain ⟨b, o, e, hc⟩ := h.rd j hj
    obtain ⟨ob, ho1, ho2⟩ := cells_rec hc
    exact ⟨b, o, e, (cell_of_same (a := ⟨b, o + j, none⟩) (by rw [hk.blk b ob (h.ra b o e).2 ho1 ho2, ho1])).trans hc⟩
  · have hl := h.rep.los
    rcases (hk.new b hc).1 with h1 | h1
    · exact (h.ra b o e).2 h1
    · have := (h.ra b o e).1; omega
theorem WalkRep.cells {lo bm : Nat} {O cs : Nat → Prop} {ba room : Nat} {L : List ObjA} {m : List Int} {st : List (Int × Nat)} {x : Int} {k g M cap : Nat} {wr : World} (h : WalkRep lo bm O cs ba room L m (st ++ [(x, k)]) (.slice (some ⟨g, 0, none⟩) M cap) wr) (hM : st.length + 1 = M) :
    wr.cell? ⟨g, (M - 1) * 2, none⟩ = some (.int .u64 x) ∧ wr.cell? ⟨g, (M - 1) * 2 + 1, none⟩ = some (.int .i64 (k : Int)) ∧ wr.frozen? ⟨g, (M - 1) * 2 + 1, none⟩ = false := by
  obtain ⟨g', cap', e, _, h1, h2, h3⟩ := h.last
  injection e with e1 e2 _
  injection e1 with e1
  injection e1 with e1 _ _
  subst e1
  have e3 : st.length = M - 1 := by omega
  rw [e3] at h1 h2 h3
  exact ⟨h1, h2, h3⟩
def mapN (w : World) (b : Nat) : Nat := match w.heap[b]? with
  | some (.map _ n) => n
  | _ => 0
def cellN (w : World) (b i : Nat) : Nat := match w.cell? ⟨b, i, none⟩ with
  | some (.int _ n) => n.toNat
  | _ => 0
theorem WalkIn.cnt {lo : Nat} {O cs : Nat → Prop} {ba room : Nat} {L : List ObjA} {A : Option Addr} {roots m : List Int} {st : List (Int × Nat)} {v : Value} {wr : World} (h : WalkIn lo O cs ba room L A roots m st v wr) : mapN wr lo = m.length := by
  unfold mapN
  rw [h.rep.map]
theorem WalkIn.bump {lo : Nat} {O cs : Nat → Prop} {ba room : Nat} {L : List ObjA} {A : Option Addr} {roots m : List Int} {st : List (Int × Nat)} {x u : Int} {k k' g M cap : Nat} {wr : World} (h : WalkIn lo O cs ba room L A roots m (st ++ [(x, k)]) (.slice (some ⟨g, 0, none⟩) M cap) wr) (hM : st.length + 1 = M) (hu : (k' : Int) = u) :
    WalkIn lo O cs ba room L A roots m (st ++ [(x, k')]) (.slice (some ⟨g, 0, none⟩) M cap) (wr.setCell ⟨g, (M - 1) * 2 + 1, none⟩ (.int .i64 u)) ∧ Fr (Mine lo cs) wr (wr.setCell ⟨g, (M - 1) * 2 + 1, none⟩ (.int .i64 u)) := by
  subst hu
  subst hM
  obtain ⟨h1, h2⟩ := h.rep.bump k'
  exact ⟨h.step h1 h2, h2⟩
theorem WalkIn.pop {lo : Nat} {O cs : Nat → Prop} {ba room : Nat} {L : List ObjA} {A : Option Addr} {roots m : List Int} {st : List (Int × Nat)} {s : Int × Nat} {g M cap : Nat} {wr : World} (h : WalkIn lo O cs ba room L A roots m (st ++ [s]) (.slice (some ⟨g, 0, none⟩) M cap) wr) (hM : st.length + 1 = M) :
    WalkIn lo O cs ba room L A roots m st (.slice (some ⟨g, 0, none⟩) (M - 1) cap) wr := by
  subst hM
  exact h.step h.rep.pop (Fr.refl _ _)
theorem WalkIn.row {lo : Nat} {O cs : Nat → Prop} {ba room : Nat} {L : List ObjA} {A : Option Addr} {roots m : List Int} {st : List (Int × Nat)} {s : Int × Nat} {M : Nat} {v : Value} {wr : World} (h : WalkIn lo O cs ba room L A roots m (st ++ [s]) v wr) (hM : st.length + 1 = M) :
    wr.ownsRow lo 183 2 v M (encPs (st ++ [s])) := by
  have := h.rep.row
  rw [List.length_append, List.length_singleton, hM] at this
  exact this
theorem WalkIn.push {lo : Nat} {O cs : Nat → Prop} {ba room : Nat} {L : List ObjA} {A : Option Addr} {roots m : List Int} {st : List (Int × Nat)} {s : Int × Nat} {v v' : Value} {M : Nat} {wr wa w' : World} (h : WalkIn lo O cs ba room L A roots m (st ++ [s]) v wr) (hM : st.length + 1 = M) (hB : Below wr.heap.size wr wa) (hg : wa.grownBy w' v.ownBlock) {x : Int}
    (hrow : w'.ownsRow lo 183 2 v' (M + 1) (encPs (st ++ [s]) ++ [.int .u64 x, .int .i64 0])) (hat : v'.ownBlock = v.ownBlock ∨ v'.ownBlock = some wa.heap.size) :
    WalkIn lo O cs ba room L A roots m ((st ++ [s]) ++ [(x, 0)]) v' w' ∧ Fr (Mine lo cs) wr w' := by
  obtain ⟨h1, h2⟩ := h.rep.push hB hg (x := x) (k := 0) (by rw [List.length_append, List.length_singleton, hM]; exact hrow) hat
  exact ⟨h.step h1 h2, h2⟩
theorem WalkIn.meet {lo : Nat} {O cs : Nat → Prop} {ba room : Nat} {L : List ObjA} {A : Option Addr} {roots m : List Int} {st : List (Int × Nat)} {v : Value} {x : Int} {wr w' : World} (h : WalkIn lo O cs ba room L A roots m st v wr) (hm : w'.heap[lo]? = some (.map (entsM (m ++ [x])) (m ++ [x]).length)) (hg : wr.grownBy w' (some lo)) :
    WalkIn lo O cs ba room L A roots (m ++ [x]) st v w' ∧ Fr (Mine lo cs) wr w' := by
  obtain ⟨h1, h2⟩ := h.rep.meet hm hg
  exact ⟨h.step h1 h2, h2⟩
theorem cellN_of {w : World} {b i n : Nat} (h : w.cell? ⟨b, i, none⟩ = some (.int .i64 (n : Int))) : cellN w b i = n := by
  unfold cellN
  rw [h]
  simp
/-- What is left of the rounds. -/
def leftW (n c l : Nat) : Nat := (n - c) * (n + 4) + (if l = 0 then 0 else n + 3 - l)
theorem left_pop {n c : Nat} : leftW n c 0 < leftW n c 1 := by unfold leftW; simp
theorem left_push {n c l : Nat} (h0 : l ≠ 0) (h : l ≤ n + 1) : leftW n c (l + 1) < leftW n c l := by
  unfold leftW
  rw [if_neg (by omega), if_neg h0]
  omega
theorem left_done {n c l : Nat} (hc : c < n) (h0 : l ≤ n + 1) : leftW n (c + 1) l < leftW n c (l + 1) := by
  unfold leftW
  obtain ⟨d, hd⟩ : ∃ d, n - c = d + 1 := ⟨n - c - 1, by omega⟩
  rw [hd, show n - (c + 1) = d by omega, Nat.add_mul, if_neg (Nat.succ_ne_zero l)]
  split <;> omega
end Go.Proofs.YthgnihckeckaiaaDoor.Tm
