/- A range over an iterator of one value: what is assigned at a round's start. -/
import Derived.Test.YtfeaolnklooanaaDoorPIter
namespace Go.Proofs.YtfeaolnklooanaaDoor.Tm
open Go.RowKit Go.Shelf
set_option linter.unusedVariables false
set_option linter.unusedSimpArgs false
attribute [local go_sem] Oper.semAt_some

theorem assign_one {F : Fence} {n N l : Nat} {P : Program} {T : Array Value} {v : Value} {W : World} {k par d ty : Nat} {pos : String} {K : Act → World → Prop} (hT : T.size = N) (hp : par < N)
    (hK : K { tmps := (T.setIfInBounds par v).setIfInBounds d v, defers := [] } W) :
    (Code.region k #[{ dst := some d, op := Op.assign (Operand.tmp par), type := ty, pos := pos, after := #[], guard := none }] false).wpIn (F.inRound l) n P (Exit.then K (fun _ _ _ => False)) { tmps := T.setIfInBounds par v, defers := [] } W := by
  have hg : (T.setIfInBounds par v)[par]? = some v := by simp [hT, hp]
  have hg2 : (T.setIfInBounds par v).getD par undef = v := by simp [Array.getD_eq_getD_getElem?, hg]
  gi_wp2
  exact hK
theorem range_mem1 {F : Fence} {n N : Nat} {P : Program} {g : Operand} {k par d ty : Nat} {pos : String} {body : Code} {Q : Exit → Act → World → Prop} {a : Act} {w : World}
    (hN : a.tmps.size = N) (hp : par < N)
    (hro : F.round = none) (h1 : 1 ≤ n) {gf : Nat} {lb : Array Value} (hg : a.eval g = .func (.func gf) #[] lb) (hFg : F.fn gf) (eg : ∀ args w, (callFunc gf args).run P w = .ok (.enter gf args) w)
    {G : List Yld → Yld → World → Prop} {Kp : List Yld → World → World → Prop} {S Sp : List Yld → World → Prop}
    (hseq : SeqMem F (n - 1) P gf lb (w.heap.size + 1) encZ G Kp S Sp w)
    (I : List Yld → World → Prop) (Ix : Code → List Yld → World → Prop)
    (gI : ∀ pre W V, I pre W → Below W.heap.size W V → I pre V)
    (sI : ∀ pre, Steady (w.heap.size + 1) (I pre)) (sIx : ∀ c pre, Steady (w.heap.size + 1) (Ix c pre)) (sG : ∀ pre x, Steady (w.heap.size + 1) (G pre x)) (sS : ∀ xs, Steady (w.heap.size + 1) (S xs)) (sSp : ∀ xs, Steady (w.heap.size + 1) (Sp xs))
    (hK : ∀ (xs : List Yld) (W V : World) (r r2 : Loop) (o' : Obj), W.heap[w.heap.size + 1]? = some (.loop r) → V.heap[w.heap.size + 1]? = some (.loop r2) → Kp xs (W.putObj (w.heap.size + 1) (.loop r2)) V → Kp xs W (V.putObj (w.heap.size + 1) o'))
    (h0 : I [] w)
    (hbody : ∀ (pre : List Yld) (x : Yld) (W : World), I pre W → G pre x W → body.wpIn (F.inRound (w.heap.size + 1)) (n - 1 - 1) P (memPost w.heap.size Kp I Ix (pre ++ [x]) W) { tmps := (a.tmps.setIfInBounds par (.slice x.A x.l.length x.c)).setIfInBounds d (.slice x.A x.l.length x.c), defers := [] } W)
    (hdone : ∀ (xs : List Yld) (W : World), S xs W → I xs W → W.heap[w.heap.size]? = some (.deferred (some [])) → Q .normal { a with defers := { target := .collected w.heap.size, args := #[] } :: a.defers } W)
    (hstop : ∀ (c : Code) (pre : List Yld) (W : World), Sp pre W → Ix c pre W → W.heap[w.heap.size]? = some (.deferred (some [])) → c.wpIn F n P Q { a with defers := { target := .collected w.heap.size, args := #[] } :: a.defers } W) :
    (Code.rangeFunc g #[par] (Code.region k #[{ dst := some d, op := Op.assign (Operand.tmp par), type := ty, pos := pos, after := #[], guard := none }] false) body).wpIn F n P Q a w := by
  refine range_mem hro h1 hg hFg eg (fun _ => rfl) hseq I Ix gI sI sIx sG sS sSp hK h0 (fun x => { tmps := (a.tmps.setIfInBounds par x.val).setIfInBounds d x.val, defers := [] }) (fun x W K hK => ?_) hbody hdone hstop
  have e : ((#[par].zip (encZ x)).foldl (fun t (p, v) => t.setIfInBounds p v) a.tmps) = a.tmps.setIfInBounds par x.val := by simp [encZ, Yld.val]
  rw [e]
  exact assign_one hN hp hK
theorem leaves_ret {F : Fence} {n : Nat} {P : Program} {fn : Func} {R : Ending → World → Prop} {tmps : Array Value} {ds : List Deferred} {w : World} (h : LeavesInM F n P fn tmps R ds .returning w) : bodyPostM F n P fn R .ret { tmps := tmps, defers := ds } w := h
theorem leaves_mark {F : Fence} {n : Nat} {P : Program} {fn : Func} {R : Ending → World → Prop} {tmps : Array Value} {ds : List Deferred} {w : World} {r : Nat} (hr : w.heap[r]? = some (.deferred (some []))) (h : LeavesInM F n P fn tmps R ds .returning (w.putObj r (.deferred none))) : LeavesInM F n P fn tmps R ({ target := .collected r, args := #[] } :: ds) .returning w :=
  ⟨by simp, .inl ⟨r, _, rfl, run_takeDeferred hr, h⟩⟩
theorem leaves_end {F : Fence} {n : Nat} {P : Program} {fn : Func} {R : Ending → World → Prop} {tmps : Array Value} {w : World} {v : Value} (hv : (results fn tmps).run P w = .ok v w) (h : R (.returned v) w) : LeavesInM F n P fn tmps R [] .returning w := ⟨v, hv, h⟩
end Go.Proofs.YtfeaolnklooanaaDoor.Tm
