/- arena.All, and the law's 'all': the words of the objects. -/
import Derived.RangeFuncBox
import Derived.RangeFuncLeaves
import Derived.RangeFuncWrites
import Derived.RangeFuncCalls
import Derived.RangeFuncNested
import Derived.Shelf.Abstract
import Derived.OwnWalkIn
import Derived.TacticsInMore
import Derived.LoopNIn
import Derived.LoopIn
import Derived.Maps.AppendAt
import Derived.Test.YtejcbpbhhofhlaaDoorArI
namespace Go.Proofs.YtejcbpbhhofhlaaDoor.Tm
open Go.RowKit Go.Shelf
set_option linter.unusedVariables false
set_option linter.unusedSimpArgs false
attribute [local go_sem] Oper.semAt_some

/-- What stands where a loop's record is turned. -/
def Steady (lp : Nat) (X : World → Prop) : Prop := ∀ (W : World) (r : Loop) (o : Obj), W.heap[lp]? = some (.loop r) → X W → X (W.putObj lp o)
/-- How a round of such a loop may be left. -/
def memPost {α : Type} (B : Nat) (Kp : List α → World → World → Prop) (I : List α → World → Prop) (Ix : Code → List α → World → Prop) (xs : List α) (W : World) : Exit → Act → World → Prop
  | .normal, _, V => (V.heap[B]? = W.heap[B]? ∧ V.heap[B + 1]? = W.heap[B + 1]?) ∧ Kp xs W V ∧ I xs V
  | .ret, _, V => (V.heap[B]? = W.heap[B]? ∧ V.heap[B + 1]? = W.heap[B + 1]?) ∧ Kp xs W V ∧ Ix .ret xs V
  | .exit id, _, V => (V.heap[B]? = W.heap[B]? ∧ V.heap[B + 1]? = W.heap[B + 1]?) ∧ Kp xs W V ∧ Ix (.exit id) xs V
  | .goto t, _, V => (V.heap[B]? = W.heap[B]? ∧ V.heap[B + 1]? = W.heap[B + 1]?) ∧ Kp xs W V ∧ Ix (.goto t) xs V
  | .panic _, _, _ => False
  | .outgrown, _, _ => False
/-- The contract of an iterator that yields memory: G tells a round what it is handed, S and Sp tell of the world at the end. -/
def SeqMem {α : Type} (F : Fence) (n : Nat) (P : Program) (gf : Nat) (lb : Array Value) (lp : Nat) (encs : α → Array Value) (G : List α → α → World → Prop) (Kp : List α → World → World → Prop) (S Sp : List α → World → Prop) (w : World) : Prop :=
  ∀ (J Jx : List α → World → Prop), (∀ pre W V, J pre W → Below W.heap.size W V → J pre V) →
    (∀ pre x W, J pre W → G pre x W → YieldAt F (n - 1) P lp (encs x) W fun e V => (e = .returned (.bool true) ∧ J (pre ++ [x]) V ∧ Kp (pre ++ [x]) W V) ∨ (e = .returned (.bool false) ∧ Jx (pre ++ [x]) V ∧ Kp (pre ++ [x]) W V)) →
    ∀ W, Below w.heap.size w W → w.heap.size + 2 ≤ W.heap.size → J [] W → CallsIn F n P gf (#[.func (.yield lp) #[] #[]] ++ lb) W fun e V => (∃ v, e = .returned v) ∧ ((∃ xs, S xs V ∧ J xs V) ∨ (∃ pre, Sp pre V ∧ Jx pre V))
theorem range_mem {F : Fence} {n : Nat} {P : Program} {α : Type} {g : Operand} {ps : Array Tmp} {assign body : Code} {Q : Exit → Act → World → Prop} {a : Act} {w : World}
    (hro : F.round = none) (h1 : 1 ≤ n) {gf : Nat} {lb : Array Value} (hg : a.eval g = .func (.func gf) #[] lb) (hFg : F.fn gf) (eg : ∀ args w, (callFunc gf args).run P w = .ok (.enter gf args) w)
    {encs : α → Array Value} (hps : ∀ x, (encs x).size = ps.size) {G : List α → α → World → Prop} {Kp : List α → World → World → Prop} {S Sp : List α → World → Prop}
    (hseq : SeqMem F (n - 1) P gf lb (w.heap.size + 1) encs G Kp S Sp w)
    (I : List α → World → Prop) (Ix : Code → List α → World → Prop)
    (gI : ∀ pre W V, I pre W → Below W.heap.size W V → I pre V)
    (sI : ∀ pre, Steady (w.heap.size + 1) (I pre)) (sIx : ∀ c pre, Steady (w.heap.size + 1) (Ix c pre)) (sG : ∀ pre x, Steady (w.heap.size + 1) (G pre x)) (sS : ∀ xs, Steady (w.heap.size + 1) (S xs)) (sSp : ∀ xs, Steady (w.heap.size + 1) (Sp xs))
    (hK : ∀ (xs : List α) (W V : World) (r r2 : Loop) (o' : Obj), W.heap[w.heap.size + 1]? = some (.loop r) → V.heap[w.heap.size + 1]? = some (.loop r2) → Kp xs (W.putObj (w.heap.size + 1) (.loop r2)) V → Kp xs W (V.putObj (w.heap.size + 1) o'))
    (h0 : I [] w) (a₁ : α → Act)
    (hassign : ∀ (x : α) (W : World) (K : Act → World → Prop), K (a₁ x) W →
      assign.wpIn (F.inRound (w.heap.size + 1)) (n - 1 - 1) P (Exit.then K (fun _ _ _ => False)) { tmps := (ps.zip (encs x)).foldl (fun t (p, v) => t.setIfInBounds p v) a.tmps, defers := [] } W)
    (hbody : ∀ (pre : List α) (x : α) (W : World), I pre W → G pre x W → body.wpIn (F.inRound (w.heap.size + 1)) (n - 1 - 1) P (memPost w.heap.size Kp I Ix (pre ++ [x]) W) (a₁ x) W)
    (hdone : ∀ (xs : List α) (W : World), S xs W → I xs W → W.heap[w.heap.size]? = some (.deferred (some [])) → Q .normal { a with defers := { target := .collected w.heap.size, args := #[] } :: a.defers } W)
    (hstop : ∀ (c : Code) (pre : List α) (W : World), Sp pre W → Ix c pre W → W.heap[w.heap.size]? = some (.deferred (some [])) → c.wpIn F n P Q { a with defers := { target := .collected w.heap.size, args := #[] } :: a.defers } W) :
    (Code.rangeFunc g ps assign body).wpIn F n P Q a w := by
  refine wpIn_rangeFunc fun fn hfn => ?_
  rw [hro]
  let R : LoopState → Option Code → Loop := fun st pe => { state := st, pending := pe, fn, tmps := a.tmps, params := ps, assign, body, defers := w.heap.size }
  let W1 := (w.alloc (.deferred (some []))).alloc (.loop (R .ready none))
  have bW : Below w.heap.size w W1 := ((Below.refl _ w).alloc (Nat.le_refl _) _).alloc (by simp) _
  have rec1 : W1.heap[w.heap.size + 1]? = some (.loop (R .ready none)) := by
    have := World.alloc_heap_new (w.alloc (.deferred (some []))) (.loop (R .ready none))
    rwa [World.size_alloc] at this
  have def1 : W1.heap[w.heap.size]? = some (.deferred (some [])) := (Below.heap_alloc _ _ _ (by simp)).trans (World.alloc_heap_new w _)
  -- the block of deferred calls stays where the record is turned
  have defPut : ∀ (W : World) (o : Obj), W.heap[w.heap.size]? = some (.deferred (some [])) → (W.putObj (w.heap.size + 1) o).heap[w.heap.size]? = some (.deferred (some [])) := fun W o h => (World.putObj_heap_other (by omega)).trans h
  have lt_ : ∀ {W : World} {i : Nat} {o : Obj}, W.heap[i]? = some o → i < W.heap.size := fun h => (Array.getElem?_eq_some_iff.1 h).1
  refine ⟨w.heap.size + 1, [{ target := .collected w.heap.size, args := #[] }], W1, { target := .fn (.func gf) lb, args := #[.func (.yield (w.heap.size + 1)) #[] #[]] }, W1, gf,
    #[.func (.yield (w.heap.size + 1)) #[] #[]] ++ lb, W1, run_enterLoop_outer _ _ _ _ _, ?_, ?_, ?_, fun _ => h1, ?_⟩
  · simp only [resolve, hg]; simp [go_sem]
  · intro f' hf'
    simp [Target.leads] at hf'
    subst hf'; exact hFg
  · simp [invoke, go_sem, eg]
  refine (hseq (fun pre W => I pre W ∧ W.heap[w.heap.size + 1]? = some (.loop (R .ready none)) ∧ W.heap[w.heap.size]? = some (.deferred (some [])))
    (fun pre W => ∃ c, Ix c pre W ∧ W.heap[w.heap.size + 1]? = some (.loop (R .done (some c))) ∧ W.heap[w.heap.size]? = some (.deferred (some [])))
    (fun pre W V hs hB => ⟨gI pre W V hs.1 hB, (hB.block _ (lt_ hs.2.1)).trans hs.2.1, (hB.block _ (lt_ hs.2.2)).trans hs.2.2⟩) ?_ W1 bW (by simp [W1]) ⟨gI [] w W1 h0 bW, rec1, def1⟩).mono ?_
  · -- one round
    rintro pre x W ⟨hi, hl, hd⟩ hG
    have hlt := lt_ hl
    have hy := run_yield (P := P) (args := encs x) hl (hps x)
    refine ⟨_, _, _, _, hy, roundIn_of_wpIn hfn (hassign x W _ ⟨_, run_beginRound hl rfl, ?_⟩)⟩
    have busy : (W.putObj (w.heap.size + 1) (.loop { R .ready none with state := .busy })).heap[w.heap.size + 1]? = some (.loop { R .ready none with state := .busy }) := World.putObj_heap_same hlt
    have hd2 := defPut W (.loop { R .ready none with state := .busy }) hd
    refine wpIn_mono (hbody pre x _ (sI pre W _ _ hl hi) (sG pre x W _ _ hl hG)) ?_
    rintro e a3 V hp
    have turn : ∀ (jump : Option Code), (V.heap[w.heap.size]? = (W.putObj (w.heap.size + 1) (.loop { R .ready none with state := .busy })).heap[w.heap.size]? ∧ V.heap[w.heap.size + 1]? = (W.putObj (w.heap.size + 1) (.loop { R .ready none with state := .busy })).heap[w.heap.size + 1]?) →
        (Instr.endRound (w.heap.size + 1) jump).run P V = .ok (.bool jump.isNone) (V.putObj (w.heap.size + 1) (.loop (R (if jump.isNone then .ready else .done) jump))) ∧ V.heap[w.heap.size + 1]? = some (.loop { R .ready none with state := .busy }) ∧
        (V.putObj (w.heap.size + 1) (.loop (R (if jump.isNone then .ready else .done) jump))).heap[w.heap.size + 1]? = some (.loop (R (if jump.isNone then .ready else .done) jump)) ∧
        (V.putObj (w.heap.size + 1) (.loop (R (if jump.isNone then .ready else .done) jump))).heap[w.heap.size]? = some (.deferred (some [])) := fun jump ⟨k1, k2⟩ => by
      have v2 := k2.trans busy
      exact ⟨run_endRound jump v2, v2, World.putObj_heap_same (lt_ v2), defPut V _ (k1.trans hd2)⟩
    cases e with
    | normal =>
      obtain ⟨hk, hkp, hi2⟩ := hp
      obtain ⟨t1, t2, t3, t4⟩ := turn none hk
      exact ⟨_, _, t1, .inl ⟨rfl, ⟨sI _ V _ _ t2 hi2, t3, t4⟩, hK _ W V _ _ _ hl t2 hkp⟩⟩
    | ret =>
      obtain ⟨hk, hkp, hi2⟩ := hp
      obtain ⟨t1, t2, t3, t4⟩ := turn (some .ret) hk
      exact ⟨_, _, t1, .inr ⟨rfl, ⟨.ret, sIx _ _ V _ _ t2 hi2, t3, t4⟩, hK _ W V _ _ _ hl t2 hkp⟩⟩
    | exit id =>
      obtain ⟨hk, hkp, hi2⟩ := hp
      obtain ⟨t1, t2, t3, t4⟩ := turn (some (.exit id)) hk
      exact ⟨_, _, t1, .inr ⟨rfl, ⟨.exit id, sIx _ _ V _ _ t2 hi2, t3, t4⟩, hK _ W V _ _ _ hl t2 hkp⟩⟩
    | goto t =>
      obtain ⟨hk, hkp, hi2⟩ := hp
      obtain ⟨t1, t2, t3, t4⟩ := turn (some (.goto t)) hk
      exact ⟨_, _, t1, .inr ⟨rfl, ⟨.goto t, sIx _ _ V _ _ t2 hi2, t3, t4⟩, hK _ W V _ _ _ hl t2 hkp⟩⟩
    | panic ch => exact hp.elim
    | outgrown => exact hp.elim
  · -- behind the iterator
    rintro e V ⟨⟨v, rfl⟩, (⟨xs, hs, hi, hl, hd⟩ | ⟨pre, hs, c, hi, hl, hd⟩)⟩
    · exact ⟨none, _, run_endLoop hl (by simp [R]), hdone xs _ (sS xs V _ _ hl hs) (sI xs V _ _ hl hi) (defPut V _ hd)⟩
    · exact ⟨some c, _, run_endLoop hl (by simp [R]), hstop c pre _ (sSp pre V _ _ hl hs) (sIx c pre V _ _ hl hi) (defPut V _ hd)⟩
theorem assign_one {F : Fence} {n N l : Nat} {P : Program} {T : Array Value} {v : Value} {W : World} {k par d ty : Nat} {pos : String} {K : Act → World → Prop} (hT : T.size = N) (hp : par < N)
    (hK : K { tmps := (T.setIfInBounds par v).setIfInBounds d v, defers := [] } W) :
    (Code.region k #[{ dst := some d, op := Op.assign (Operand.tmp par), type := ty, pos := pos, after := #[], guard := none }] false).wpIn (F.inRound l) n P (Exit.then K (fun _ _ _ => False)) { tmps := T.setIfInBounds par v, defers := [] } W := by
  have hg : (T.setIfInBounds par v)[par]? = some v := by simp [hT, hp]
  have hg2 : (T.setIfInBounds par v).getD par undef = v := by simp [Array.getD_eq_getD_getElem?, hg]
  gi_wp2
  exact hK
theorem leaves_ret {F : Fence} {n : Nat} {P : Program} {fn : Func} {R : Ending → World → Prop} {tmps : Array Value} {ds : List Deferred} {w : World} (h : LeavesInM F n P fn tmps R ds .returning w) : bodyPostM F n P fn R .ret { tmps := tmps, defers := ds } w := h
theorem leaves_mark {F : Fence} {n : Nat} {P : Program} {fn : Func} {R : Ending → World → Prop} {tmps : Array Value} {ds : List Deferred} {w : World} {r : Nat} (hr : w.heap[r]? = some (.deferred (some []))) (h : LeavesInM F n P fn tmps R ds .returning (w.putObj r (.deferred none))) : LeavesInM F n P fn tmps R ({ target := .collected r, args := #[] } :: ds) .returning w :=
  ⟨by simp, .inl ⟨r, _, rfl, run_takeDeferred hr, h⟩⟩
theorem leaves_end {F : Fence} {n : Nat} {P : Program} {fn : Func} {R : Ending → World → Prop} {tmps : Array Value} {w : World} {v : Value} (hv : (results fn tmps).run P w = .ok v w) (h : R (.returned v) w) : LeavesInM F n P fn tmps R [] .returning w := ⟨v, hv, h⟩
theorem run_equalIn_func_nil2 {P : Program} (w : World) (d : Nat) {t : TypeId} {x y : Array TypeId} {z : Bool} (h : P.underlying t = some (.func x y z)) (fn : Fn) (first captured : Array Value) :
    (Op.equalIn (d + 1) t (.func fn first captured) .nilFunc).run P w = .ok false w := by
  simp [Op.equalIn, run_underlying h]
theorem run_eql_func_nil2 {P : Program} (w : World) {t : TypeId} {x y : Array TypeId} {z : Bool} (h : P.underlying t = some (.func x y z)) (fn : Fn) (first captured : Array Value) :
    (binOp .eql t (.func fn first captured) .nilFunc).run P w = .ok (.bool false) w := by
  simp only [binOp]
  simp [Op.equal, Op.maxDepth, run_equalIn_func_nil2 w 9999 h]

/-! the words' iterator -/
/-- What a round is handed: how far the iterator's memory reaches; a word. -/
structure Yw where
  sz : Nat
  x : Int
def encYw (y : Yw) : Array Value := #[.int .u64 y.x]
def szW : List Yw → Nat
  | [] => 0
  | y :: _ => y.sz
theorem szW_snoc {pre : List Yw} {x : Yw} (h : pre ≠ []) : szW (pre ++ [x]) = szW pre := by
  cases pre with
  | nil => exact absurd rfl h
  | cons y l => rfl
structure KpW (Bx : Nat → Prop) (xs : List Yw) (W V : World) : Prop where
  size : W.heap.size ≤ V.heap.size
  blk : ∀ k o, k < szW xs → ¬ Bx k → W.heap[k]? = some o → o.isCells = true → V.heap[k]? = some o
structure GW (lo : Nat) (ws : List Int) (pre : List Yw) (x : Yw) (W : World) : Prop where
  sz1 : lo + 2 ≤ x.sz
  sz2 : x.sz ≤ W.heap.size
  same : ∀ y ∈ pre, y.sz = x.sz
  ls : (pre ++ [x]).map Yw.x <+: ws
def SW (ws : List Int) (xs : List Yw) (W : World) : Prop := xs.map Yw.x = ws
def SpW (ws : List Int) (xs : List Yw) (W : World) : Prop := xs.map Yw.x <+: ws
theorem szW_of {ys : List Yw} {s : Nat} (h : ∀ y ∈ ys, y.sz = s) (hne : ys ≠ []) : szW ys = s := by
  cases ys with
  | nil => exact absurd rfl hne
  | cons y l => exact h y (by simp)
theorem cells_isCells {w : World} {b i : Nat} {v : Value} (h : w.cell? ⟨b, i, none⟩ = some v) : ∃ o, w.heap[b]? = some o ∧ o.isCells = true := by
  unfold World.cell? at h
  cases ho : w.heap[b]? with
  | none => simp [ho] at h
  | some o => exact ⟨o, rfl, by cases o <;> simp_all [Obj.isCells]⟩
set_option maxRecDepth 100000 in
set_option maxHeartbeats 4000000 in
theorem words1_mem (n : Nat) (hn : 1 ≤ n) (b0 lp : Nat) (Bx : Nat → Prop) (w : World) (O : Nat → Prop) (ba room : Nat) (l : List ObjA) (hbox : w.cell? ⟨b0, 0, none⟩ = some (.pointer (some ⟨ba, 0, none⟩))) (hA : ArAt w O ba room l) (hBx : ∀ k, Bx k → k < w.heap.size) :
    SeqMem Fence.wide n Tryd.prog 62 #[.pointer (some ⟨b0, 0, none⟩)] lp encYw (GW w.heap.size (wordsA 0 l)) (KpW Bx) (SW (wordsA 0 l)) (SpW (wordsA 0 l)) w := by
  intro J Jx hJg hY W hW hW2 h0
  have hF3 : Fence.wide.fn 53 := trivial
  have HJ := Lib.hid hJg
  have HY := Lib.hid hY
  have H0 := Lib.hid h0
  have HBX := Lib.hid hBx
  have p0 := cell_below hW hbox
  have hlims := hA.lims
  have hwl := hA.wf.len
  obtain ⟨bm, vO, vW, vs, hR⟩ := hA.below hW
  obtain ⟨c0, c1, c2, c3, c4⟩ := hR.cells
  obtain ⟨AW, cW, hvW⟩ := row_slice hR.rw
  have hrw := hR.rw
  rw [hvW] at c4 hrw
  rw [← wordsA_len 0 l] at hrw c4
  have hWR := Lib.hid (WReads.of_row hrw)
  have hln : (wordsA 0 l).length ≤ 262144 := by rw [wordsA_len]; omega
  have hsz := hW.size
  clear hJg hY h0 hbox hW hBx c0 c1 c2 c3 hR hvW hrw hA hlims hwl
  refine callsIn_of_wp Tryd.func62 rfl trivial ?_ rfl
  simp only [Tryd.ntmps62, List.size_toArray, List.length_cons, List.length_nil, Nat.reduceAdd, Nat.reduceSub, Array.replicate_succ, Array.replicate_zero, List.push_toArray, List.append_toArray, List.nil_append, List.cons_append]
  generalize wordsA 0 l = ws at *
  gi_wp2_with (gi_at_call 53; refine (callsIn_wide.2 (wclone_any ws AW cW _ hWR.out (by omega))).mono ?_; rintro e w2 ⟨A2, c2, rfl, hrow2, hb2⟩)
  have HW2 := Lib.hid (WReads.of_row hrow2)
  have hbase2 := Lib.hid (row_base hrow2)
  have HJ2 := Lib.hid (HJ.out [] W _ H0.out hb2)
  have hsz2 := hb2.size
  clear hb2 hrow2 p0 c4
  gi_loopw [13] (fun i wr => ∃ (k : Nat) (pre : List Yw), k ≤ ws.length ∧ i = .int .i64 (k : Int) ∧ Hid (pre.map Yw.x = ws.take k) ∧ Hid (J pre wr) ∧ Hid (∀ y ∈ pre, y.sz = w2.heap.size) ∧ Hid (∀ m o, m < w2.heap.size → ¬ Bx m → w2.heap[m]? = some o → o.isCells = true → wr.heap[m]? = some o) ∧ w2.heap.size ≤ wr.heap.size) (fun i _ => ws.length - (intOf i).toNat)
  case atStart => exact ⟨0, [], Nat.zero_le _, rfl, rfl, HJ2, fun y hy => absurd hy (List.not_mem_nil), fun _ _ _ _ h _ => h, Nat.le_refl _⟩
  case round =>
    obtain ⟨k, pre, hk, rfl, hmap, hJs, hszs, hsame, hsw⟩ := hrel
    by_cases hlt : k < ws.length
    · obtain ⟨g, o, rfl, q0⟩ := HW2.out k hlt
      have hgb := hbase2.out g rfl
      have hng : ¬ Bx g := fun h => by have := HBX.out g h; omega
      have hgw : g < w2.heap.size := cell_lt q0
      obtain ⟨ob, ho1, ho2⟩ := cells_isCells q0
      have q0' : wr.cell? ⟨g, o + k, none⟩ = some (.int .u64 ws[k]) := (cell_of_same (a := ⟨g, o + k, none⟩) (by rw [ho1]; exact hsame.out g ob hgw hng ho1 ho2)).trans q0
      have TK := Lib.hid (List.take_succ_eq_append_getElem hlt)
      have hk1 : (k : Int) < (ws.length : Int) := by omega
      have hk0 : (0 : Int) ≤ (k : Int) := Int.natCast_nonneg _
      generalize ws[k] = x at *
      have HG := Lib.hid (show GW w.heap.size ws pre ⟨w2.heap.size, x⟩ wr from ⟨by simp only; omega, by simp only; omega, hszs.out, by rw [List.map_append, hmap.out]; show _ ++ [x] <+: _; rw [← TK.out]; exact List.take_prefix _ _⟩)
      obtain ⟨fn, tmps, assign, body, hy, hRd⟩ := HY.out pre ⟨w2.heap.size, x⟩ wr hJs.out HG.out
      have hy' : (Instr.yield lp #[.int .u64 x]).run Tryd.prog wr = _ := hy
      clear q0 hng ho1 ho2
      gi_wp2
      refine hRd.mono ?_
      rintro e W3 (⟨rfl, hJ4, hk4⟩ | ⟨rfl, hJx4, hk4⟩)
      · have HJ4 := Lib.hid hJ4
        have hsz4 := hk4.size
        have hzs : ∀ y ∈ pre ++ [(⟨w2.heap.size, x⟩ : Yw)], y.sz = w2.heap.size := fun y hy => by
          rcases List.mem_append.1 hy with h1 | h1
          · exact hszs.out y h1
          · obtain rfl : y = _ := by simpa using h1
            rfl
        have hszo : szW (pre ++ [(⟨w2.heap.size, x⟩ : Yw)]) = w2.heap.size := szW_of hzs (by simp)
        have HZ := Lib.hid hzs
        have HSM := Lib.hid (show ∀ m o, m < w2.heap.size → ¬ Bx m → w2.heap[m]? = some o → o.isCells = true → W3.heap[m]? = some o from fun m o hm hx ho hc => hk4.blk m o (by rw [hszo]; exact hm) hx (hsame.out m o hm hx ho hc) hc)
        have HMP := Lib.hid (show (pre ++ [(⟨w2.heap.size, x⟩ : Yw)]).map Yw.x = ws.take (k + 1) by rw [TK.out, List.map_append, hmap.out]; rfl)
        clear hJ4 hk4 hzs hszo hy hy' hRd
        gi_wp2
        go_roundw
        case rel => exact ⟨k + 1, _, by omega, by go_num, HMP, HJ4, HZ, HSM, by omega⟩
        case measure => simp [intOf]; omega
      · have HJ4 := Lib.hid hJx4
        have HLS := Lib.hid HG.out.ls
        clear hJx4 hk4 hy hy' hRd
        gi_wp2
        refine bodyPost_ret (results_none rfl _ _ _) rfl ?_
        exact ⟨⟨_, rfl⟩, .inr ⟨_, HLS.out, HJ4.out⟩⟩
    · have HE := Lib.hid (show SW ws pre wr by unfold SW; rw [hmap.out, List.take_of_length_le (by omega)])
      gi_wp2
      go_end0
      exact ⟨⟨_, rfl⟩, .inl ⟨pre, HE.out, hJs.out⟩⟩

theorem nil1_mem (n : Nat) (hn : 1 ≤ n) (b0 lp : Nat) (Bx : Nat → Prop) (w : World) (hbox : w.cell? ⟨b0, 0, none⟩ = some (.pointer none)) :
    SeqMem Fence.wide n Tryd.prog 62 #[.pointer (some ⟨b0, 0, none⟩)] lp encYw (GW w.heap.size []) (KpW Bx) (SW []) (SpW []) w := by
  intro J Jx hJg hY W hW hW2 h0
  have H0 := Lib.hid h0
  have p0 := cell_below hW hbox
  clear hJg hY h0 hbox hW hW2
  refine callsIn_of_wp Tryd.func62 rfl trivial ?_ rfl
  simp only [Tryd.ntmps62, List.size_toArray, List.length_cons, List.length_nil, Nat.reduceAdd, Nat.reduceSub, Array.replicate_succ, Array.replicate_zero, List.push_toArray, List.append_toArray, List.nil_append, List.cons_append]
  gi_wp2
  refine bodyPost_ret (results_none rfl _ _ _) rfl ?_
  exact ⟨⟨_, rfl⟩, .inl ⟨[], rfl, H0.out⟩⟩
theorem seqAll_any (p0 : Option Addr) (w : World) : Calls Tryd.prog 38 #[.pointer p0] w fun e w' => e = .returned (.func (.func 62) #[] #[.pointer (some ⟨w.heap.size, 0, none⟩)]) ∧ w' = w.alloc (.cells #[.pointer p0] 23) := by
  go_enter Tryd.func38, Tryd.ntmps38
  go_wp2
  go_ret
  exact ⟨rfl, rfl⟩

/-! the law's all -/
/-- A box that holds the row of what has been handed. -/
def GathW (W : World) (lo B : Nat) (xs : List Yw) : Prop :=
  ∃ v, Boxed W B 25 v ∧ W.ownsRow (szW xs) 31 1 v xs.length (encW (xs.map Yw.x)) ∧ (xs = [] → v = .slice none 0 0) ∧ (xs ≠ [] → lo + 2 ≤ szW xs ∧ szW xs ≤ W.heap.size)
theorem GathW.putObj {W : World} {lo B lp : Nat} {xs : List Yw} {o : Obj} (h : GathW W lo B xs) (o' : Obj) (hl : W.heap[lp]? = some o) (ho : o.isCells = false) (hne : B ≠ lp) : GathW (W.putObj lp o') lo B xs := by
  obtain ⟨v, h1, h2, h3, h4⟩ := h
  exact ⟨v, (World.putObj_heap_other hne).trans h1, ownsRow_putObj h2 _ hl ho, h3, fun k => ⟨(h4 k).1, by simpa [World.putObj] using (h4 k).2⟩⟩
theorem GathW.below {W V : World} {lo B : Nat} {xs : List Yw} (h : GathW W lo B xs) (hB : Below W.heap.size W V) : GathW V lo B xs := by
  obtain ⟨v, h1, h2, h3, h4⟩ := h
  exact ⟨v, (hB.block _ h1.lt).trans h1, row_below h2 hB, h3, fun k => ⟨(h4 k).1, Nat.le_trans (h4 k).2 hB.size⟩⟩
theorem GathW.row {W : World} {lo B : Nat} {pre : List Yw} {ws : List Int} {x : Yw} (h : GathW W lo B pre) (hG : GW lo ws pre x W) :
    ∃ v, Boxed W B 25 v ∧ W.ownsRow (szW (pre ++ [x])) 31 1 v pre.length (encW (pre.map Yw.x)) ∧ lo + 2 ≤ szW (pre ++ [x]) ∧ szW (pre ++ [x]) ≤ W.heap.size := by
  obtain ⟨v, h1, h2, h3, h4⟩ := h
  by_cases e : pre = []
  · subst e
    obtain rfl := h3 rfl
    exact ⟨_, h1, row_nil _ _ _ _, hG.sz1, hG.sz2⟩
  · rw [szW_snoc e]
    exact ⟨v, h1, h2, h4 e⟩
theorem gathW_step {W w1 : World} {lo B s : Nat} {pre : List Yw} {x : Yw} {v v' : Value} {tmp : Obj} {Bx : Nat → Prop} (hs : szW (pre ++ [x]) = s) (hs1 : lo + 2 ≤ s) (hs2 : s ≤ W.heap.size) (hB : B < lo) (hbx : Bx B)
    (hv : Boxed W B 25 v) (hrow : W.ownsRow s 31 1 v pre.length (encW (pre.map Yw.x))) (hown : w1.ownsRow s 31 1 v' (pre.length + 1) (encW (pre.map Yw.x) ++ [.int .u64 x.x])) (hg : (W.alloc tmp).grownBy w1 v.ownBlock) :
    Boxed w1 B 25 v ∧ Boxed (w1.setCell ⟨B, 0, none⟩ v') B 25 v' ∧ GathW (w1.setCell ⟨B, 0, none⟩ v') lo B (pre ++ [x]) ∧ KpW Bx (pre ++ [x]) W (w1.setCell ⟨B, 0, none⟩ v') ∧ (∀ k, k < s → k ≠ B → (w1.setCell ⟨B, 0, none⟩ v').heap[k]? = W.heap[k]?) ∧ (∀ n₀, n₀ ≤ B → Below n₀ W (w1.setCell ⟨B, 0, none⟩ v')) := by
  have hv1 : Boxed w1 B 25 v := (hv.alloc tmp).kept hg (hv.not_row (by decide) hrow)
  have hsz : W.heap.size ≤ w1.heap.size := by have := hg.size; rw [World.size_alloc] at this; omega
  have hz : (w1.setCell ⟨B, 0, none⟩ v').heap.size = w1.heap.size := by simp [World.setCell]
  have hrow4 : (w1.setCell ⟨B, 0, none⟩ v').ownsRow s 31 1 v' (pre.length + 1) (encW (pre.map Yw.x) ++ [.int .u64 x.x]) :=
    World.ownsRow.kept hown (grownBy_setCell' w1 B v') (by
      rcases hq : v'.ownBlock with _ | k
      · exact .inl rfl
      · right; intro e; injection e with e; subst e; have := row_base hown _ hq; omega)
  have hblk : ∀ k, k < s → k ≠ B → (w1.setCell ⟨B, 0, none⟩ v').heap[k]? = W.heap[k]? := fun k hk hne => by
    have h1 : (w1.setCell ⟨B, 0, none⟩ v').heap[k]? = w1.heap[k]? := (grownBy_setCell' w1 B v').block k (by omega) (fun e => hne (by injection e))
    have h2 : w1.heap[k]? = (W.alloc tmp).heap[k]? := hg.block k (by rw [World.size_alloc]; omega) (fun e => by have := row_base hrow k e.symm; omega)
    exact h1.trans (h2.trans (Below.heap_alloc _ _ _ (by omega)))
  refine ⟨hv1, hv1.set v', ⟨v', hv1.set v', ?_, fun e => by simp at e, fun _ => ⟨by omega, by omega⟩⟩, ⟨by omega, fun k o hk hb ho hc => ?_⟩, hblk, fun n₀ hn => ?_⟩
  · rw [hs, List.length_append, List.map_append]
    have e : encW (pre.map Yw.x ++ [x].map Yw.x) = encW (pre.map Yw.x) ++ [.int .u64 x.x] := by simp [encW]
    rw [e]
    exact hrow4
  · exact (hblk k (by omega) (fun e => hb (e ▸ hbx))).trans ho
  · have b1 : Below n₀ W w1 := ((Below.refl n₀ W).alloc (by omega) tmp).grown hg (by rw [World.size_alloc]; omega) (fun k e => by have := row_base hrow k e; omega)
    exact b1.setCell (p := ⟨B, 0, none⟩) hn v'
theorem kpW_loop {Bx : Nat → Prop} {xs : List Yw} {W V : World} {lp : Nat} {r r2 : Loop} (h : KpW Bx xs (W.putObj lp (.loop r2)) V) (hl : W.heap[lp]? = some (.loop r)) (hl2 : V.heap[lp]? = some (.loop r2)) (o' : Obj) : KpW Bx xs W (V.putObj lp o') := by
  refine ⟨by simpa [World.putObj] using h.size, fun k o hk hb ho hc => ?_⟩
  have hne : k ≠ lp := fun e => by
    subst e
    rw [hl] at ho
    injection ho with ho
    subst ho
    cases hc
  exact (World.putObj_heap_other hne).trans (h.blk k o hk hb ((World.putObj_heap_other hne).trans ho) hc)
def allWorld (p0 : Option Addr) (w : World) : World := (w.alloc (.cells #[.slice none 0 0] 25)).alloc (.cells #[.pointer p0] 23)
set_option maxRecDepth 100000 in
set_option maxHeartbeats 4000000 in
theorem all_in (n : Nat) (hn : 5 ≤ n) (p0 : Option Addr) (ws : List Int) (hwl : ws.length ≤ 262144) (w : World)
    (hseq : SeqMem Fence.wide (n - 1) Tryd.prog 62 #[.pointer (some ⟨w.heap.size + 1, 0, none⟩)] ((allWorld p0 w).heap.size + 1) encYw (GW (allWorld p0 w).heap.size ws) (KpW fun k => k = w.heap.size) (SW ws) (SpW ws) (allWorld p0 w)) :
    CallsIn Fence.wide n Tryd.prog 14 #[.pointer p0] w fun e V => ∃ A c, e = .returned (.slice A ws.length c) ∧ V.ownsRow w.heap.size 31 1 (.slice A ws.length c) ws.length (encW ws) ∧ Below w.heap.size w V := by
  have h1 : 1 ≤ n := by omega
  have hF1 : Fence.wide.fn 38 := trivial
  obtain ⟨i0, hi, hz0, hz1, hz2⟩ := info_parts word_info
  have HSQ := Lib.hid hseq
  clear hseq
  refine callsIn_of_wp_marks Tryd.func14 rfl trivial ?_ rfl
  simp only [Tryd.ntmps14, List.size_toArray, List.length_cons, List.length_nil, Nat.reduceAdd, Nat.reduceSub, Array.replicate_succ, Array.replicate_zero, List.push_toArray, List.append_toArray, List.nil_append, List.cons_append]
  have heq := fun (W : World) fn first captured => run_eql_func_nil2 (P := Tryd.prog) W Tryd.underlying86 fn first captured
  gi_wp2_with (gi_at_call 38; refine (callsIn_wide.2 (seqAll_any p0 _)).mono ?_; rintro e w2 ⟨rfl, hw2⟩; have hw3 : Hid (w2 = allWorld p0 w) := Lib.hid hw2; clear hw2)
  have hz : (allWorld p0 w).heap.size = w.heap.size + 2 := by simp [allWorld]
  have B3 : Boxed (allWorld p0 w) w.heap.size 25 (.slice none 0 0) := (Boxed.new w 25 (.slice none 0 0)).alloc _
  have HBW : Below w.heap.size w (allWorld p0 w) := below_alloc' (below_one w _) _
  rw [← hw3.out] at hz B3 HBW HSQ
  have HBW := Lib.hid HBW
  have HB3 := Lib.hid B3
  clear heq hw3 B3
  refine range_mem rfl h1 (gf := 62) (lb := #[.pointer (some ⟨w.heap.size + 1, 0, none⟩)]) rfl trivial (enters_of Tryd.func62 (by kernel_rfl) rfl) (fun _ => rfl) HSQ.out
    (fun pre W => GathW W w2.heap.size w.heap.size pre ∧ Below w.heap.size w W)
    (fun cd pre W => False)
    ?gI ?sI ?sIx ?sG ?sS ?sSp ?hK ?h0
    (fun x => { tmps := #[.pointer p0, undef, .slice none 0 0, .pointer (some ⟨w.heap.size, 0, none⟩), .func (.func 62) #[] #[.pointer (some ⟨w.heap.size + 1, 0, none⟩)], .int .u64 x.x, .pointer p0, .func (.func 62) #[] #[.pointer (some ⟨w.heap.size + 1, 0, none⟩)], .func (.func 62) #[] #[.pointer (some ⟨w.heap.size + 1, 0, none⟩)], .bool false, .func (.func 62) #[] #[.pointer (some ⟨w.heap.size + 1, 0, none⟩)], .int .u64 x.x, undef, undef, undef, undef, undef], defers := [] }) ?assign ?body ?done ?stop
  case gI => exact fun pre W V h hB => ⟨h.1.below hB, below_then h.2 hB⟩
  case sI => exact fun pre W r o hl h => ⟨h.1.putObj o hl rfl (by omega), h.2.trans (belowK_b (w := w) (Nat.le_refl _) W _ _ o (by omega) hl rfl rfl)⟩
  case sIx => exact fun cd pre W r o hl h => h
  case sG => exact fun pre x W r o hl h => ⟨h.sz1, by simpa [World.putObj] using h.sz2, h.same, h.ls⟩
  case sS => exact fun xs W r o hl h => h
  case sSp => exact fun xs W r o hl h => h
  case hK => exact fun xs W V r r2 o' hl hl2 h => kpW_loop h hl hl2 o'
  case h0 => exact ⟨⟨_, HB3.out, row_nil _ _ _ _, fun _ => rfl, fun e => absurd rfl e⟩, HBW.out⟩
  case assign =>
    intro x W K hK
    simp only [encYw]
    gi_wp2
    exact hK
  case body =>
    rintro pre x W ⟨hga, hB⟩ hG
    obtain ⟨v, hv, hrow, hs1, hs2⟩ := hga.row hG
    obtain ⟨Av, cv, rfl⟩ := row_slice hrow
    have hlen : pre.length + 1 ≤ 262144 := by
      have h1 := hG.ls.length_le
      simp at h1; omega
    obtain ⟨s, hs⟩ : ∃ s, szW (pre ++ [x]) = s := ⟨_, rfl⟩
    rw [hs] at hrow hs1 hs2
    have HSZ := Lib.hid hs
    have HBw := Lib.hid hB
    have HV := Lib.hid hv
    have HROW := Lib.hid hrow
    have hc := hv.cell
    clear hga hG hs hB hv hrow
    gi_wp2_with (gi_at_builtin; refine wpListIn_append_own _ rfl _ _ 25 rfl s 31 i0 (.int .u64 0) 1 8 Tryd.underlying25 hi hz0 hz1 hz2 rfl (by decide) _ _ _ rfl (HROW.out.alloc _) ⟨W.heap.size, 0, none⟩ 1 1 [.int .u64 x.x] rfl rfl (cell_one_new _ _ _) (by simp [Value.oneCell']) (by unfold maxLen; omega) (by omega) (by simp; omega) ?_; intro v' w1 hown' hgrow _; obtain ⟨g', cap', rfl⟩ := ownsRow_succ hown'; have HST := Lib.hid (gathW_step (Bx := fun k => k = w.heap.size) HSZ.out hs1 hs2 (by omega) rfl HV.out HROW.out hown' hgrow); have hc1 := HST.out.1.cell; have hf1 := HST.out.1.frozen)
    obtain ⟨_, _, k3, k4, k5, k6⟩ := HST.out
    exact ⟨⟨k5 _ (by omega) (by omega), k5 _ (by omega) (by omega)⟩, k4, k3, HBw.out.trans (k6 _ (by omega))⟩
  case done =>
    rintro xs W hS ⟨hga, hB⟩ hK
    obtain ⟨v, hv, hrow, hnil, hne⟩ := hga
    obtain ⟨Av, cv, rfl⟩ := row_slice hrow
    have hlen : ws.length = xs.length := by rw [← hS, List.length_map]
    have hrow2 : W.ownsRow w.heap.size 31 1 (.slice Av ws.length cv) ws.length (encW ws) := by
      rw [hlen, ← hS]
      by_cases e : xs = []
      · subst e
        rw [hnil rfl]; exact row_nil _ _ _ _
      · exact row_mono hrow (by have := (hne e).1; omega)
    have hc := hv.cell
    rw [← hlen] at hc
    clear hrow hnil hne hv hlen
    gi_wp2
    refine ⟨by simp, .inl ⟨_, _, rfl, run_takeDeferred hK, ?_⟩⟩
    exact ⟨_, results_tmp rfl _ _ _, Av, cv, rfl, ownsRow_putObj hrow2 _ hK rfl, hB.trans (belowK_b (w := w) (Nat.le_refl _) W _ _ _ (by omega) hK rfl rfl)⟩
  case stop =>
    intro cd xs W hS h
    exact h.elim
theorem all_any (w : World) (O : Nat → Prop) (ba room : Nat) (l : List ObjA) (hA : ArAt w O ba room l) :
    Calls Tryd.prog 14 #[.pointer (some ⟨ba, 0, none⟩)] w fun e V => ∃ A c, e = .returned (.slice A (wordsA 0 l).length c) ∧ V.ownsRow w.heap.size 31 1 (.slice A (wordsA 0 l).length c) (wordsA 0 l).length (encW (wordsA 0 l)) ∧ Below w.heap.size w V := by
  have hB : Below w.heap.size w (allWorld (some ⟨ba, 0, none⟩) w) := below_alloc' (below_one w _) _
  have hln : (wordsA 0 l).length ≤ 262144 := by
    rw [wordsA_len]
    have := hA.wf.len
    have := hA.lims
    omega
  refine callsIn_wide.1 (all_in 6 (by omega) _ _ hln w (words1_mem 5 (by omega) (w.heap.size + 1) _ _ (allWorld (some ⟨ba, 0, none⟩) w) O ba room l ?_ (hA.below hB) (fun k e => ?_)))
  · have := (Boxed.new (w.alloc (.cells #[.slice none 0 0] 25)) 23 (.pointer (some ⟨ba, 0, none⟩))).cell
    rw [World.size_alloc] at this
    exact this
  · subst e
    simp [allWorld]
    omega
theorem all_nil (w : World) :
    Calls Tryd.prog 14 #[.pointer none] w fun e V => ∃ A c, e = .returned (.slice A 0 c) ∧ Below w.heap.size w V := by
  refine (callsIn_wide.1 (all_in 6 (by omega) none [] (by simp) w (nil1_mem 5 (by omega) (w.heap.size + 1) _ _ (allWorld none w) ?_))).mono ?_
  · have := (Boxed.new (w.alloc (.cells #[.slice none 0 0] 25)) 23 (.pointer none)).cell
    rw [World.size_alloc] at this
    exact this
  · rintro e V ⟨A, c, rfl, _, hB⟩
    exact ⟨A, c, rfl, hB⟩
end Go.Proofs.YtejcbpbhhofhlaaDoor.Tm
