/- A range over a function that yields memory of its own: a law over the kit's base lemma. -/
import Derived.RangeFuncBox
import Derived.RangeFuncLeaves
import Derived.RangeFuncWrites
import Derived.RangeFuncCalls
import Derived.RangeFuncNested
import Derived.Shelf.Abstract
import Derived.OwnWalkIn
import Derived.TacticsInMore
import Derived.LoopNIn
import Derived.LoopIn
import Derived.Maps.AppendAt
import Derived.Test.YtfeaolnklooanaaDoorPrt2
namespace Go.Proofs.YtfeaolnklooanaaDoor.Tm
open Go.RowKit Go.Shelf
set_option linter.unusedVariables false
set_option linter.unusedSimpArgs false

/-- What stands where a loop's record is turned. -/
def Steady (lp : Nat) (X : World → Prop) : Prop := ∀ (W : World) (r : Loop) (o : Obj), W.heap[lp]? = some (.loop r) → X W → X (W.putObj lp o)
/-- How a round of such a loop may be left. -/
def memPost {α : Type} (B : Nat) (Kp : List α → World → World → Prop) (I : List α → World → Prop) (Ix : Code → List α → World → Prop) (xs : List α) (W : World) : Exit → Act → World → Prop
  | .normal, _, V => (V.heap[B]? = W.heap[B]? ∧ V.heap[B + 1]? = W.heap[B + 1]?) ∧ Kp xs W V ∧ I xs V
  | .ret, _, V => (V.heap[B]? = W.heap[B]? ∧ V.heap[B + 1]? = W.heap[B + 1]?) ∧ Kp xs W V ∧ Ix .ret xs V
  | .exit id, _, V => (V.heap[B]? = W.heap[B]? ∧ V.heap[B + 1]? = W.heap[B + 1]?) ∧ Kp xs W V ∧ Ix (.exit id) xs V
  | .goto t, _, V => (V.heap[B]? = W.heap[B]? ∧ V.heap[B + 1]? = W.heap[B + 1]?) ∧ Kp xs W V ∧ Ix (.goto t) xs V
  | .panic _, _, _ => False
  | .outgrown, _, _ => False
/-- The contract of an iterator that yields memory: G tells a round what it is handed, S and Sp tell of the world at the end. -/
def SeqMem {α : Type} (F : Fence) (n : Nat) (P : Program) (gf : Nat) (lb : Array Value) (lp : Nat) (encs : α → Array Value) (G : List α → α → World → Prop) (Kp : List α → World → World → Prop) (S Sp : List α → World → Prop) (w : World) : Prop :=
  ∀ (J Jx : List α → World → Prop), (∀ pre W V, J pre W → Below W.heap.size W V → J pre V) →
    (∀ pre x W, J pre W → G pre x W → YieldAt F (n - 1) P lp (encs x) W fun e V => (e = .returned (.bool true) ∧ J (pre ++ [x]) V ∧ Kp (pre ++ [x]) W V) ∨ (e = .returned (.bool false) ∧ Jx (pre ++ [x]) V ∧ Kp (pre ++ [x]) W V)) →
    ∀ W, Below w.heap.size w W → w.heap.size + 2 ≤ W.heap.size → J [] W → CallsIn F n P gf (#[.func (.yield lp) #[] #[]] ++ lb) W fun e V => (∃ v, e = .returned v) ∧ ((∃ xs, S xs V ∧ J xs V) ∨ (∃ pre, Sp pre V ∧ Jx pre V))
theorem range_mem {F : Fence} {n : Nat} {P : Program} {α : Type} {g : Operand} {ps : Array Tmp} {assign body : Code} {Q : Exit → Act → World → Prop} {a : Act} {w : World}
    (hro : F.round = none) (h1 : 1 ≤ n) {gf : Nat} {lb : Array Value} (hg : a.eval g = .func (.func gf) #[] lb) (hFg : F.fn gf) (eg : ∀ args w, (callFunc gf args).run P w = .ok (.enter gf args) w)
    {encs : α → Array Value} (hps : ∀ x, (encs x).size = ps.size) {G : List α → α → World → Prop} {Kp : List α → World → World → Prop} {S Sp : List α → World → Prop}
    (hseq : SeqMem F (n - 1) P gf lb (w.heap.size + 1) encs G Kp S Sp w)
    (I : List α → World → Prop) (Ix : Code → List α → World → Prop)
    (gI : ∀ pre W V, I pre W → Below W.heap.size W V → I pre V)
    (sI : ∀ pre, Steady (w.heap.size + 1) (I pre)) (sIx : ∀ c pre, Steady (w.heap.size + 1) (Ix c pre)) (sG : ∀ pre x, Steady (w.heap.size + 1) (G pre x)) (sS : ∀ xs, Steady (w.heap.size + 1) (S xs)) (sSp : ∀ xs, Steady (w.heap.size + 1) (Sp xs))
    (hK : ∀ (xs : List α) (W V : World) (r r2 : Loop) (o' : Obj), W.heap[w.heap.size + 1]? = some (.loop r) → V.heap[w.heap.size + 1]? = some (.loop r2) → Kp xs (W.putObj (w.heap.size + 1) (.loop r2)) V → Kp xs W (V.putObj (w.heap.size + 1) o'))
    (h0 : I [] w) (a₁ : α → Act)
    (hassign : ∀ (x : α) (W : World) (K : Act → World → Prop), K (a₁ x) W →
      assign.wpIn (F.inRound (w.heap.size + 1)) (n - 1 - 1) P (Exit.then K (fun _ _ _ => False)) { tmps := (ps.zip (encs x)).foldl (fun t (p, v) => t.setIfInBounds p v) a.tmps, defers := [] } W)
    (hbody : ∀ (pre : List α) (x : α) (W : World), I pre W → G pre x W → body.wpIn (F.inRound (w.heap.size + 1)) (n - 1 - 1) P (memPost w.heap.size Kp I Ix (pre ++ [x]) W) (a₁ x) W)
    (hdone : ∀ (xs : List α) (W : World), S xs W → I xs W → W.heap[w.heap.size]? = some (.deferred (some [])) → Q .normal { a with defers := { target := .collected w.heap.size, args := #[] } :: a.defers } W)
    (hstop : ∀ (c : Code) (pre : List α) (W : World), Sp pre W → Ix c pre W → W.heap[w.heap.size]? = some (.deferred (some [])) → c.wpIn F n P Q { a with defers := { target := .collected w.heap.size, args := #[] } :: a.defers } W) :
    (Code.rangeFunc g ps assign body).wpIn F n P Q a w := by
  refine wpIn_rangeFunc fun fn hfn => ?_
  rw [hro]
  let R : LoopState → Option Code → Loop := fun st pe => { state := st, pending := pe, fn, tmps := a.tmps, params := ps, assign, body, defers := w.heap.size }
  let W1 := (w.alloc (.deferred (some []))).alloc (.loop (R .ready none))
  have bW : Below w.heap.size w W1 := ((Below.refl _ w).alloc (Nat.le_refl _) _).alloc (by simp) _
  have rec1 : W1.heap[w.heap.size + 1]? = some (.loop (R .ready none)) := by
    have := World.alloc_heap_new (w.alloc (.deferred (some []))) (.loop (R .ready none))
    rwa [World.size_alloc] at this
  have def1 : W1.heap[w.heap.size]? = some (.deferred (some [])) := (Below.heap_alloc _ _ _ (by simp)).trans (World.alloc_heap_new w _)
  -- the block of deferred calls stays where the record is turned
  have defPut : ∀ (W : World) (o : Obj), W.heap[w.heap.size]? = some (.deferred (some [])) → (W.putObj (w.heap.size + 1) o).heap[w.heap.size]? = some (.deferred (some [])) := fun W o h => (World.putObj_heap_other (by omega)).trans h
  have lt_ : ∀ {W : World} {i : Nat} {o : Obj}, W.heap[i]? = some o → i < W.heap.size := fun h => (Array.getElem?_eq_some_iff.1 h).1
  refine ⟨w.heap.size + 1, [{ target := .collected w.heap.size, args := #[] }], W1, { target := .fn (.func gf) lb, args := #[.func (.yield (w.heap.size + 1)) #[] #[]] }, W1, gf,
    #[.func (.yield (w.heap.size + 1)) #[] #[]] ++ lb, W1, run_enterLoop_outer _ _ _ _ _, ?_, ?_, ?_, fun _ => h1, ?_⟩
  · simp only [resolve, hg]; simp [go_sem]
  · intro f' hf'
    simp [Target.leads] at hf'
    subst hf'; exact hFg
  · simp [invoke, go_sem, eg]
  refine (hseq (fun pre W => I pre W ∧ W.heap[w.heap.size + 1]? = some (.loop (R .ready none)) ∧ W.heap[w.heap.size]? = some (.deferred (some [])))
    (fun pre W => ∃ c, Ix c pre W ∧ W.heap[w.heap.size + 1]? = some (.loop (R .done (some c))) ∧ W.heap[w.heap.size]? = some (.deferred (some [])))
    (fun pre W V hs hB => ⟨gI pre W V hs.1 hB, (hB.block _ (lt_ hs.2.1)).trans hs.2.1, (hB.block _ (lt_ hs.2.2)).trans hs.2.2⟩) ?_ W1 bW (by simp [W1]) ⟨gI [] w W1 h0 bW, rec1, def1⟩).mono ?_
  · -- one round
    rintro pre x W ⟨hi, hl, hd⟩ hG
    have hlt := lt_ hl
    have hy := run_yield (P := P) (args := encs x) hl (hps x)
    refine ⟨_, _, _, _, hy, roundIn_of_wpIn hfn (hassign x W _ ⟨_, run_beginRound hl rfl, ?_⟩)⟩
    have busy : (W.putObj (w.heap.size + 1) (.loop { R .ready none with state := .busy })).heap[w.heap.size + 1]? = some (.loop { R .ready none with state := .busy }) := World.putObj_heap_same hlt
    have hd2 := defPut W (.loop { R .ready none with state := .busy }) hd
    refine wpIn_mono (hbody pre x _ (sI pre W _ _ hl hi) (sG pre x W _ _ hl hG)) ?_
    rintro e a3 V hp
    have turn : ∀ (jump : Option Code), (V.heap[w.heap.size]? = (W.putObj (w.heap.size + 1) (.loop { R .ready none with state := .busy })).heap[w.heap.size]? ∧ V.heap[w.heap.size + 1]? = (W.putObj (w.heap.size + 1) (.loop { R .ready none with state := .busy })).heap[w.heap.size + 1]?) →
        (Instr.endRound (w.heap.size + 1) jump).run P V = .ok (.bool jump.isNone) (V.putObj (w.heap.size + 1) (.loop (R (if jump.isNone then .ready else .done) jump))) ∧ V.heap[w.heap.size + 1]? = some (.loop { R .ready none with state := .busy }) ∧
        (V.putObj (w.heap.size + 1) (.loop (R (if jump.isNone then .ready else .done) jump))).heap[w.heap.size + 1]? = some (.loop (R (if jump.isNone then .ready else .done) jump)) ∧
        (V.putObj (w.heap.size + 1) (.loop (R (if jump.isNone then .ready else .done) jump))).heap[w.heap.size]? = some (.deferred (some [])) := fun jump ⟨k1, k2⟩ => by
      have v2 := k2.trans busy
      exact ⟨run_endRound jump v2, v2, World.putObj_heap_same (lt_ v2), defPut V _ (k1.trans hd2)⟩
    cases e with
    | normal =>
      obtain ⟨hk, hkp, hi2⟩ := hp
      obtain ⟨t1, t2, t3, t4⟩ := turn none hk
      exact ⟨_, _, t1, .inl ⟨rfl, ⟨sI _ V _ _ t2 hi2, t3, t4⟩, hK _ W V _ _ _ hl t2 hkp⟩⟩
    | ret =>
      obtain ⟨hk, hkp, hi2⟩ := hp
      obtain ⟨t1, t2, t3, t4⟩ := turn (some .ret) hk
      exact ⟨_, _, t1, .inr ⟨rfl, ⟨.ret, sIx _ _ V _ _ t2 hi2, t3, t4⟩, hK _ W V _ _ _ hl t2 hkp⟩⟩
    | exit id =>
      obtain ⟨hk, hkp, hi2⟩ := hp
      obtain ⟨t1, t2, t3, t4⟩ := turn (some (.exit id)) hk
      exact ⟨_, _, t1, .inr ⟨rfl, ⟨.exit id, sIx _ _ V _ _ t2 hi2, t3, t4⟩, hK _ W V _ _ _ hl t2 hkp⟩⟩
    | goto t =>
      obtain ⟨hk, hkp, hi2⟩ := hp
      obtain ⟨t1, t2, t3, t4⟩ := turn (some (.goto t)) hk
      exact ⟨_, _, t1, .inr ⟨rfl, ⟨.goto t, sIx _ _ V _ _ t2 hi2, t3, t4⟩, hK _ W V _ _ _ hl t2 hkp⟩⟩
    | panic ch => exact hp.elim
    | outgrown => exact hp.elim
  · -- behind the iterator
    rintro e V ⟨⟨v, rfl⟩, (⟨xs, hs, hi, hl, hd⟩ | ⟨pre, hs, c, hi, hl, hd⟩)⟩
    · exact ⟨none, _, run_endLoop hl (by simp [R]), hdone xs _ (sS xs V _ _ hl hs) (sI xs V _ _ hl hi) (defPut V _ hd)⟩
    · exact ⟨some c, _, run_endLoop hl (by simp [R]), hstop c pre _ (sSp pre V _ _ hl hs) (sIx c pre V _ _ hl hi) (defPut V _ hd)⟩
end Go.Proofs.YtfeaolnklooanaaDoor.Tm
