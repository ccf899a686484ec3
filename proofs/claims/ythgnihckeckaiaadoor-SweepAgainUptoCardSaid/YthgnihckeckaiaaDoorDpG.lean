/- A range over an iterator that writes memory of its own between the rounds. -/
import Derived.RangeFuncBox
import Derived.RangeFuncLeaves
import Derived.RangeFuncWrites
import Derived.RangeFuncCalls
import Derived.RangeFuncNested
import Derived.Shelf.Abstract
import Derived.OwnWalkIn
import Derived.TacticsInMore
import Derived.LoopNIn
import Derived.LoopIn
import Derived.Maps.AppendAt
import Derived.Test.YthgnihckeckaiaaDoorDpI
namespace Go.Proofs.YthgnihckeckaiaaDoor.Tm
open Go.RowKit Go.Shelf
set_option linter.unusedVariables false
set_option linter.unusedSimpArgs false
attribute [local go_sem] Oper.semAt_some

/-- What stands where a loop's record is turned. -/
def Steady (lp : Nat) (X : World → Prop) : Prop := ∀ (W : World) (r : Loop) (o : Obj), W.heap[lp]? = some (.loop r) → X W → X (W.putObj lp o)
def recO : Obj → Bool
  | .loop _ => true
  | _ => false
/-- What a round keeps: all but records of loops and its own blocks; its own are old ones or new. -/
structure KpG (cs cs' : Nat → Prop) (W V : World) : Prop where
  size : W.heap.size ≤ V.heap.size
  blk : ∀ k o, ¬ cs k → W.heap[k]? = some o → recO o = false → V.heap[k]? = some o
  new : ∀ k, cs' k → (cs k ∨ W.heap.size ≤ k) ∧ k < V.heap.size
theorem kpG_loop {cs cs' : Nat → Prop} {W V : World} {lp : Nat} {r r2 : Loop} (h : KpG cs cs' (W.putObj lp (.loop r2)) V) (hl : W.heap[lp]? = some (.loop r)) (o' : Obj) : KpG cs cs' W (V.putObj lp o') := by
  have hz : (W.putObj lp (.loop r2)).heap.size = W.heap.size := by simp [World.putObj]
  have hz' : (V.putObj lp o').heap.size = V.heap.size := by simp [World.putObj]
  refine ⟨by have := h.size; omega, fun k o hk ho hc => ?_, fun k hk => by have := h.new k hk; rw [hz] at this; rw [hz']; exact this⟩
  have hne : k ≠ lp := fun e => by
    subst e
    rw [hl] at ho
    injection ho with ho
    subst ho
    cases hc
  exact (World.putObj_heap_other hne).trans (h.blk k o hk ((World.putObj_heap_other hne).trans ho) hc)
/-- How a round may be left. -/
def ghPost (B : Nat) (I : (Nat → Prop) → List Int → World → Prop) (Ix : Code → (Nat → Prop) → List Int → World → Prop) (cs : Nat → Prop) (xs : List Int) (W : World) : Exit → Act → World → Prop
  | .normal, _, V => (V.heap[B]? = W.heap[B]? ∧ V.heap[B + 1]? = W.heap[B + 1]?) ∧ ∃ cs', KpG cs cs' W V ∧ I cs' xs V
  | .ret, _, V => (V.heap[B]? = W.heap[B]? ∧ V.heap[B + 1]? = W.heap[B + 1]?) ∧ ∃ cs', KpG cs cs' W V ∧ Ix .ret cs' xs V
  | .exit id, _, V => (V.heap[B]? = W.heap[B]? ∧ V.heap[B + 1]? = W.heap[B + 1]?) ∧ ∃ cs', KpG cs cs' W V ∧ Ix (.exit id) cs' xs V
  | .goto t, _, V => (V.heap[B]? = W.heap[B]? ∧ V.heap[B + 1]? = W.heap[B + 1]?) ∧ ∃ cs', KpG cs cs' W V ∧ Ix (.goto t) cs' xs V
  | .panic _, _, _ => False
  | .outgrown, _, _ => False
/-- The contract of an iterator over words that writes its own memory between the rounds. -/
def SeqGh (F : Fence) (n : Nat) (P : Program) (gf : Nat) (lb : Array Value) (lp : Nat) (ws : List Int) (Dis : Nat → Prop) (w : World) : Prop :=
  ∀ (J Jx : (Nat → Prop) → List Int → World → Prop) (cs0 : Nat → Prop) (W : World), Below w.heap.size w W → w.heap.size + 2 ≤ W.heap.size → (∀ k, cs0 k → k < W.heap.size ∧ ¬ Dis k) →
    (∀ cs pre W1 W2, J cs pre W1 → Fr (fun k => W.heap.size ≤ k ∧ ¬ cs k) W1 W2 → J cs pre W2) →
    (∀ cs pre x W1, J cs pre W1 → (∀ k, cs k → k < W1.heap.size) → (pre ++ [x]) <+: ws → YieldAt F (n - 1) P lp #[.int .u64 x] W1 fun e V => ∃ cs', ((e = .returned (.bool true) ∧ J cs' (pre ++ [x]) V) ∨ (e = .returned (.bool false) ∧ Jx cs' (pre ++ [x]) V)) ∧ KpG cs cs' W1 V) →
    J cs0 [] W → CallsIn F n P gf (#[.func (.yield lp) #[] #[]] ++ lb) W fun e V => (∃ v, e = .returned v) ∧ ((∃ cs, J cs ws V) ∨ ∃ cs pre, pre <+: ws ∧ Jx cs pre V)
theorem range_gh {F : Fence} {n : Nat} {P : Program} {g : Operand} {ps : Array Tmp} {assign body : Code} {Q : Exit → Act → World → Prop} {a : Act} {w : World}
    (hro : F.round = none) (h1 : 1 ≤ n) {gf : Nat} {lb : Array Value} (hg : a.eval g = .func (.func gf) #[] lb) (hFg : F.fn gf) (eg : ∀ args w, (callFunc gf args).run P w = .ok (.enter gf args) w)
    (hps : ps.size = 1) {ws : List Int} {Dis : Nat → Prop}
    (hseq : SeqGh F (n - 1) P gf lb (w.heap.size + 1) ws Dis w) (cs0 : Nat → Prop) (hcs0 : ∀ k, cs0 k → k < w.heap.size ∧ ¬ Dis k)
    (I : (Nat → Prop) → List Int → World → Prop) (Ix : Code → (Nat → Prop) → List Int → World → Prop)
    (gI : ∀ cs pre W V, I cs pre W → Fr (fun k => w.heap.size + 2 ≤ k ∧ ¬ cs k) W V → I cs pre V)
    (sI : ∀ cs pre, Steady (w.heap.size + 1) (I cs pre)) (sIx : ∀ c cs pre, Steady (w.heap.size + 1) (Ix c cs pre))
    (h0 : I cs0 [] w) (a₁ : Int → Act)
    (hassign : ∀ (x : Int) (W : World) (K : Act → World → Prop), K (a₁ x) W →
      assign.wpIn (F.inRound (w.heap.size + 1)) (n - 1 - 1) P (Exit.then K (fun _ _ _ => False)) { tmps := (ps.zip #[.int .u64 x]).foldl (fun t (p, v) => t.setIfInBounds p v) a.tmps, defers := [] } W)
    (hbody : ∀ (cs : Nat → Prop) (pre : List Int) (x : Int) (W : World), I cs pre W → (∀ k, cs k → k < W.heap.size) → (pre ++ [x]) <+: ws → w.heap.size + 2 ≤ W.heap.size → body.wpIn (F.inRound (w.heap.size + 1)) (n - 1 - 1) P (ghPost w.heap.size I Ix cs (pre ++ [x]) W) (a₁ x) W)
    (hdone : ∀ (cs : Nat → Prop) (W : World), I cs ws W → W.heap[w.heap.size]? = some (.deferred (some [])) → Q .normal { a with defers := { target := .collected w.heap.size, args := #[] } :: a.defers } W)
    (hstop : ∀ (c : Code) (cs : Nat → Prop) (pre : List Int) (W : World), pre <+: ws → Ix c cs pre W → W.heap[w.heap.size]? = some (.deferred (some [])) → c.wpIn F n P Q { a with defers := { target := .collected w.heap.size, args := #[] } :: a.defers } W) :
    (Code.rangeFunc g ps assign body).wpIn F n P Q a w := by
  refine wpIn_rangeFunc fun fn hfn => ?_
  rw [hro]
  let R : LoopState → Option Code → Loop := fun st pe => { state := st, pending := pe, fn, tmps := a.tmps, params := ps, assign, body, defers := w.heap.size }
  let W1 := (w.alloc (.deferred (some []))).alloc (.loop (R .ready none))
  have bW : Below w.heap.size w W1 := ((Below.refl _ w).alloc (Nat.le_refl _) _).alloc (by simp) _
  have rec1 : W1.heap[w.heap.size + 1]? = some (.loop (R .ready none)) := by
    have := World.alloc_heap_new (w.alloc (.deferred (some []))) (.loop (R .ready none))
    rwa [World.size_alloc] at this
  have def1 : W1.heap[w.heap.size]? = some (.deferred (some [])) := (Below.heap_alloc _ _ _ (by simp)).trans (World.alloc_heap_new w _)
  have defPut : ∀ (W : World) (o : Obj), W.heap[w.heap.size]? = some (.deferred (some [])) → (W.putObj (w.heap.size + 1) o).heap[w.heap.size]? = some (.deferred (some [])) := fun W o h => (World.putObj_heap_other (by omega)).trans h
  have lt_ : ∀ {W : World} {i : Nat} {o : Obj}, W.heap[i]? = some o → i < W.heap.size := fun h => (Array.getElem?_eq_some_iff.1 h).1
  have z1 : W1.heap.size = w.heap.size + 2 := by simp [W1]
  refine ⟨w.heap.size + 1, [{ target := .collected w.heap.size, args := #[] }], W1, { target := .fn (.func gf) lb, args := #[.func (.yield (w.heap.size + 1)) #[] #[]] }, W1, gf,
    #[.func (.yield (w.heap.size + 1)) #[] #[]] ++ lb, W1, run_enterLoop_outer _ _ _ _ _, ?_, ?_, ?_, fun _ => h1, ?_⟩
  · simp only [resolve, hg]; simp [go_sem]
  · intro f' hf'
    simp [Target.leads] at hf'
    subst hf'; exact hFg
  · simp [invoke, go_sem, eg]
  refine (hseq (fun cs pre W => I cs pre W ∧ (W.heap[w.heap.size + 1]? = some (.loop (R .ready none)) ∧ W.heap[w.heap.size]? = some (.deferred (some []))) ∧ ¬ cs w.heap.size ∧ ¬ cs (w.heap.size + 1))
    (fun cs pre W => ∃ c, Ix c cs pre W ∧ W.heap[w.heap.size + 1]? = some (.loop (R .done (some c))) ∧ W.heap[w.heap.size]? = some (.deferred (some [])))
    cs0 W1 bW (by simp [W1]) (fun k hk => ⟨by have := (hcs0 k hk).1; omega, (hcs0 k hk).2⟩)
    (fun cs pre W V hs hF => ⟨gI cs pre W V hs.1 (hF.mono fun i _ hi => by rw [z1] at hi; exact hi), ⟨(hF.block _ (lt_ hs.2.1.1) (by omega)).trans hs.2.1.1, (hF.block _ (lt_ hs.2.1.2) (by omega)).trans hs.2.1.2⟩, hs.2.2⟩) ?_
    ⟨gI cs0 [] w W1 h0 (Fr.of_below bW), ⟨rec1, def1⟩, fun h => by have := (hcs0 _ h).1; omega, fun h => by have := (hcs0 _ h).1; omega⟩).mono ?_
  · -- one round
    rintro cs pre x W ⟨hi, ⟨hl, hd⟩, nc0, nc1⟩ hcs hpre
    have hlt := lt_ hl
    have hy := run_yield (P := P) (args := #[.int .u64 x]) hl (by rw [hps]; rfl)
    refine ⟨_, _, _, _, hy, roundIn_of_wpIn hfn (hassign x W _ ⟨_, run_beginRound hl rfl, ?_⟩)⟩
    have busy : (W.putObj (w.heap.size + 1) (.loop { R .ready none with state := .busy })).heap[w.heap.size + 1]? = some (.loop { R .ready none with state := .busy }) := World.putObj_heap_same hlt
    have hd2 := defPut W (.loop { R .ready none with state := .busy }) hd
    have hzp : (W.putObj (w.heap.size + 1) (.loop { R .ready none with state := .busy })).heap.size = W.heap.size := by simp [World.putObj]
    refine wpIn_mono (hbody cs pre x _ (sI cs pre W _ _ hl hi) (fun k hk => by rw [hzp]; exact hcs k hk) hpre (by rw [hzp]; omega)) ?_
    rintro e a3 V hp
    have turn : ∀ (jump : Option Code), (V.heap[w.heap.size]? = (W.putObj (w.heap.size + 1) (.loop { R .ready none with state := .busy })).heap[w.heap.size]? ∧ V.heap[w.heap.size + 1]? = (W.putObj (w.heap.size + 1) (.loop { R .ready none with state := .busy })).heap[w.heap.size + 1]?) →
        (Instr.endRound (w.heap.size + 1) jump).run P V = .ok (.bool jump.isNone) (V.putObj (w.heap.size + 1) (.loop (R (if jump.isNone then .ready else .done) jump))) ∧ V.heap[w.heap.size + 1]? = some (.loop { R .ready none with state := .busy }) ∧
        (V.putObj (w.heap.size + 1) (.loop (R (if jump.isNone then .ready else .done) jump))).heap[w.heap.size + 1]? = some (.loop (R (if jump.isNone then .ready else .done) jump)) ∧
        (V.putObj (w.heap.size + 1) (.loop (R (if jump.isNone then .ready else .done) jump))).heap[w.heap.size]? = some (.deferred (some [])) := fun jump ⟨k1, k2⟩ => by
      have v2 := k2.trans busy
      exact ⟨run_endRound jump v2, v2, World.putObj_heap_same (lt_ v2), defPut V _ (k1.trans hd2)⟩
    have nw : ∀ {cs' : Nat → Prop}, KpG cs cs' (W.putObj (w.heap.size + 1) (.loop { R .ready none with state := .busy })) V → ¬ cs' w.heap.size ∧ ¬ cs' (w.heap.size + 1) := fun hk => by
      refine ⟨fun h => ?_, fun h => ?_⟩
      · rcases (hk.new _ h).1 with h' | h'
        · exact nc0 h'
        · omega
      · rcases (hk.new _ h).1 with h' | h'
        · exact nc1 h'
        · omega
    cases e with
    | normal =>
      obtain ⟨hk, cs', hkp, hi2⟩ := hp
      obtain ⟨t1, t2, t3, t4⟩ := turn none hk
      exact ⟨_, _, t1, cs', .inl ⟨rfl, sI _ _ V _ _ t2 hi2, ⟨t3, t4⟩, nw hkp⟩, kpG_loop hkp hl _⟩
    | ret =>
      obtain ⟨hk, cs', hkp, hi2⟩ := hp
      obtain ⟨t1, t2, t3, t4⟩ := turn (some .ret) hk
      exact ⟨_, _, t1, cs', .inr ⟨rfl, .ret, sIx _ _ _ V _ _ t2 hi2, t3, t4⟩, kpG_loop hkp hl _⟩
    | exit id =>
      obtain ⟨hk, cs', hkp, hi2⟩ := hp
      obtain ⟨t1, t2, t3, t4⟩ := turn (some (.exit id)) hk
      exact ⟨_, _, t1, cs', .inr ⟨rfl, .exit id, sIx _ _ _ V _ _ t2 hi2, t3, t4⟩, kpG_loop hkp hl _⟩
    | goto t =>
      obtain ⟨hk, cs', hkp, hi2⟩ := hp
      obtain ⟨t1, t2, t3, t4⟩ := turn (some (.goto t)) hk
      exact ⟨_, _, t1, cs', .inr ⟨rfl, .goto t, sIx _ _ _ V _ _ t2 hi2, t3, t4⟩, kpG_loop hkp hl _⟩
    | panic ch => exact hp.elim
    | outgrown => exact hp.elim
  · -- behind the iterator
    rintro e V ⟨⟨v, rfl⟩, (⟨cs, hi, ⟨hl, hd⟩, _⟩ | ⟨cs, pre, hs, c, hi, hl, hd⟩)⟩
    · exact ⟨none, _, run_endLoop hl (by simp [R]), hdone cs _ (sI _ _ V _ _ hl hi) (defPut V _ hd)⟩
    · exact ⟨some c, _, run_endLoop hl (by simp [R]), hstop c cs pre _ hs (sIx c cs pre V _ _ hl hi) (defPut V _ hd)⟩
theorem assign_one {F : Fence} {n N l : Nat} {P : Program} {T : Array Value} {v : Value} {W : World} {k par d ty : Nat} {pos : String} {K : Act → World → Prop} (hT : T.size = N) (hp : par < N)
    (hK : K { tmps := (T.setIfInBounds par v).setIfInBounds d v, defers := [] } W) :
    (Code.region k #[{ dst := some d, op := Op.assign (Operand.tmp par), type := ty, pos := pos, after := #[], guard := none }] false).wpIn (F.inRound l) n P (Exit.then K (fun _ _ _ => False)) { tmps := T.setIfInBounds par v, defers := [] } W := by
  have hg : (T.setIfInBounds par v)[par]? = some v := by simp [hT, hp]
  have hg2 : (T.setIfInBounds par v).getD par undef = v := by simp [Array.getD_eq_getD_getElem?, hg]
  gi_wp2
  exact hK
theorem leaves_ret {F : Fence} {n : Nat} {P : Program} {fn : Func} {R : Ending → World → Prop} {tmps : Array Value} {ds : List Deferred} {w : World} (h : LeavesInM F n P fn tmps R ds .returning w) : bodyPostM F n P fn R .ret { tmps := tmps, defers := ds } w := h
theorem leaves_mark {F : Fence} {n : Nat} {P : Program} {fn : Func} {R : Ending → World → Prop} {tmps : Array Value} {ds : List Deferred} {w : World} {r : Nat} (hr : w.heap[r]? = some (.deferred (some []))) (h : LeavesInM F n P fn tmps R ds .returning (w.putObj r (.deferred none))) : LeavesInM F n P fn tmps R ({ target := .collected r, args := #[] } :: ds) .returning w :=
  ⟨by simp, .inl ⟨r, _, rfl, run_takeDeferred hr, h⟩⟩
theorem leaves_end {F : Fence} {n : Nat} {P : Program} {fn : Func} {R : Ending → World → Prop} {tmps : Array Value} {w : World} {v : Value} (hv : (results fn tmps).run P w = .ok v w) (h : R (.returned v) w) : LeavesInM F n P fn tmps R [] .returning w := ⟨v, hv, h⟩
theorem run_equalIn_func_nil2 {P : Program} (w : World) (d : Nat) {t : TypeId} {x y : Array TypeId} {z : Bool} (h : P.underlying t = some (.func x y z)) (fn : Fn) (first captured : Array Value) :
    (Op.equalIn (d + 1) t (.func fn first captured) .nilFunc).run P w = .ok false w := by
  simp [Op.equalIn, run_underlying h]
theorem run_eql_func_nil2 {P : Program} (w : World) {t : TypeId} {x y : Array TypeId} {z : Bool} (h : P.underlying t = some (.func x y z)) (fn : Fn) (first captured : Array Value) :
    (binOp .eql t (.func fn first captured) .nilFunc).run P w = .ok (.bool false) w := by
  simp only [binOp]
  simp [Op.equal, Op.maxDepth, run_equalIn_func_nil2 w 9999 h]
end Go.Proofs.YthgnihckeckaiaaDoor.Tm
