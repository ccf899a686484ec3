/- deep.Depth. -/
import Derived.Test.YthgnihckeckaiaaDoorDpO
import Derived.Test.YthgnihckeckaiaaDoorDpR
namespace Go.Proofs.YthgnihckeckaiaaDoor.Tm
open Go.RowKit Go.Shelf
set_option linter.unusedVariables false
set_option linter.unusedSimpArgs false
attribute [local go_sem] Oper.semAt_some

/-! a map of words to depths -/
def lookD : List (Int × Nat) → Int → Nat
  | [], _ => 0
  | p :: d, x => if x = p.1 then p.2 else lookD d x
def entsDF : Nat → List (Int × Nat) → List MapEntry
  | _, [] => []
  | i, p :: d => ⟨.int .u64 p.1, .int .i64 (p.2 : Int), i⟩ :: entsDF (i + 1) d
def entsD (d : List (Int × Nat)) : Array MapEntry := (entsDF 0 d).toArray
theorem entsDF_snoc : ∀ (i : Nat) (d : List (Int × Nat)) (p : Int × Nat), entsDF i (d ++ [p]) = entsDF i d ++ [⟨.int .u64 p.1, .int .i64 (p.2 : Int), i + d.length⟩]
  | i, [], p => by simp [entsDF]
  | i, q :: d, p => by
    rw [List.cons_append, entsDF, entsDF_snoc, entsDF, List.cons_append]
    rw [show i + 1 + d.length = i + (q :: d).length by simp; omega]
theorem findNow_d (a : Int) : ∀ (d : List (Int × Nat)) (i n : Nat), (∃ k, Instr.findNow (.int .u64) (.int .u64 a) (entsDF i d) n = some (some (k, .int .i64 (lookD d a : Int)))) ∨ (Instr.findNow (.int .u64) (.int .u64 a) (entsDF i d) n = some none ∧ lookD d a = 0)
  | [], _, _ => .inr ⟨rfl, rfl⟩
  | p :: d, i, n => by
    rw [entsDF]
    unfold Instr.findNow lookD
    by_cases h : a = p.1
    · rw [if_pos h]
      subst h
      exact .inl ⟨n, by simp [Instr.sameNow]⟩
    · have e : (a == p.1) = false := beq_eq_false_iff_ne.2 h
      rw [if_neg h]
      simp only [Instr.sameNow, if_true, e]
      exact findNow_d a d (i + 1) (n + 1)
theorem findNow_dn (a : Int) : ∀ (d : List (Int × Nat)) (i n : Nat), (∀ p ∈ d, p.1 ≠ a) → Instr.findNow (.int .u64) (.int .u64 a) (entsDF i d) n = some none
  | [], _, _, _ => rfl
  | p :: d, i, n, h => by
    rw [entsDF]
    unfold Instr.findNow
    have e : (a == p.1) = false := beq_eq_false_iff_ne.2 (fun e => h p (by simp) e.symm)
    simp only [Instr.sameNow, if_true, e]
    exact findNow_dn a d (i + 1) (n + 1) (fun q hq => h q (by simp [hq]))
theorem run_lookD (w : World) (bm : Nat) (d : List (Int × Nat)) (a : Int) (hm : w.heap[bm]? = some (.map (entsD d) d.length)) :
    (Instr.lookup 136 (.map (some bm)) (.int .u64 a) false).run Tryd.prog w = .ok (.int .i64 (lookD d a : Int)) w := by
  have hz : (zeroValue 3).run Tryd.prog w = .ok (.int .i64 0) w := by kernel_rfl
  have hc := MapKept.run_checkKey (P := Tryd.prog) (w := w) (kt := 27) (k := .int .u64 a) Tryd.underlying27 rfl (entsD d).isEmpty 9999
  rcases findNow_d a d 0 0 with ⟨k, hk⟩ | ⟨hk, h0⟩
  · have hf := MapKept.run_findKey (P := Tryd.prog) (w := w) (kt := 27) (k := .int .u64 a) (l := (entsD d).toList) Tryd.underlying27 (show Instr.findNow (.int .u64) (.int .u64 a) (entsDF 0 d) 0 = _ from hk)
    simp [Instr.lookup, run_underlying Tryd.underlying136, MapKept.run_getObj_map hm, hc, hf, Result.andThen]
  · have hf := MapKept.run_findKey (P := Tryd.prog) (w := w) (kt := 27) (k := .int .u64 a) (l := (entsD d).toList) Tryd.underlying27 (show Instr.findNow (.int .u64) (.int .u64 a) (entsDF 0 d) 0 = _ from hk)
    rw [h0]
    simp [Instr.lookup, run_underlying Tryd.underlying136, MapKept.run_getObj_map hm, hc, hf, hz, Result.andThen]
theorem run_putD (w : World) (bm : Nat) (d : List (Int × Nat)) (a v : Int) (n : Nat) (hv : (n : Int) = v) (hm : w.heap[bm]? = some (.map (entsD d) d.length)) (hn : ∀ p ∈ d, p.1 ≠ a) :
    ∃ w', (Instr.mapUpdate 136 (.map (some bm)) (.int .u64 a) (.int .i64 v)).run Tryd.prog w = .ok () w' ∧ w'.heap[bm]? = some (.map (entsD (d ++ [(a, n)])) (d ++ [(a, n)]).length) ∧ w.grownBy w' (some bm) := by
  subst hv
  have hf := MapKept.run_findKey (P := Tryd.prog) (w := w) (kt := 27) (k := .int .u64 a) (l := (entsD d).toList) Tryd.underlying27 (show Instr.findNow (.int .u64) (.int .u64 a) (entsDF 0 d) 0 = _ from findNow_dn a d 0 0 hn)
  have hc := MapKept.run_checkKey (P := Tryd.prog) (w := w) (kt := 27) (k := .int .u64 a) Tryd.underlying27 rfl false 9999
  have hs := MapKept.run_setObj_map (P := Tryd.prog) (w := w) (.map ((entsD d).push ⟨.int .u64 a, .int .i64 (n : Int), d.length⟩) (d.length + 1)) hm
  refine ⟨{ w with heap := w.heap.setIfInBounds bm (.map ((entsD d).push ⟨.int .u64 a, .int .i64 (n : Int), d.length⟩) (d.length + 1)) }, ?_, ?_, ?_⟩
  rotate_left
  · have e : entsD (d ++ [(a, n)]) = (entsD d).push ⟨.int .u64 a, .int .i64 (n : Int), d.length⟩ := by
      unfold entsD
      rw [entsDF_snoc]
      simp
    rw [e, List.length_append, List.length_singleton]
    exact (MapKept.heap_set hm).1
  · exact ⟨rfl, rfl, rfl, by simp, fun i _ hi => (MapKept.heap_set hm).2 i (fun e => hi (by rw [e]))⟩
  · simp [Instr.mapUpdate, run_underlying Tryd.underlying136, MapKept.run_getObj_map hm, hc, hf, hs, Result.andThen]

/-! depths -/
def maxD (d : List (Int × Nat)) (n : Nat) (ps : List Int) : Nat := ps.foldl (fun n p => max n (lookD d p)) n
def depD (L : List ObjA) (d : List (Int × Nat)) (o : Int) : List (Int × Nat) := d ++ [(o, maxD d 0 (partsW L o) + 1)]
def depAll (L : List ObjA) (ws : List Int) : List (Int × Nat) := ws.foldl (depD L) []
def lastD (d : List (Int × Nat)) : Nat := match d.getLast? with
  | some p => p.2
  | none => 0
theorem depAll_snoc (L : List ObjA) (ws : List Int) (x : Int) : depAll L (ws ++ [x]) = depD L (depAll L ws) x := by simp [depAll]
theorem dep_keys (L : List ObjA) : ∀ (ws : List Int) (d : List (Int × Nat)), (ws.foldl (depD L) d).map Prod.fst = d.map Prod.fst ++ ws
  | [], d => by simp
  | x :: ws, d => by
    rw [List.foldl_cons, dep_keys L ws]
    simp [depD]
theorem depAll_keys (L : List ObjA) (ws : List Int) : (depAll L ws).map Prod.fst = ws := by
  have := dep_keys L ws []
  unfold depAll
  simpa using this
theorem depAll_len (L : List ObjA) (ws : List Int) : (depAll L ws).length = ws.length := by
  rw [← List.length_map (f := Prod.fst), depAll_keys]
theorem look_le {d : List (Int × Nat)} {m : Nat} : (∀ p ∈ d, p.2 ≤ m) → ∀ x, lookD d x ≤ m := by
  induction d with
  | nil => intro _ x; exact Nat.zero_le _
  | cons p d ih =>
    intro h x
    unfold lookD
    split
    · exact h p (by simp)
    · exact ih (fun q hq => h q (by simp [hq])) x
theorem maxD_le {d : List (Int × Nat)} {m : Nat} (h : ∀ p ∈ d, p.2 ≤ m) : ∀ (ps : List Int) (n : Nat), n ≤ m → maxD d n ps ≤ m
  | [], n, hn => hn
  | p :: ps, n, hn => by
    unfold maxD
    rw [List.foldl_cons]
    exact maxD_le h ps _ (by have := look_le h p; omega)
theorem depAll_le (L : List ObjA) : ∀ (n : Nat) (ws : List Int), ws.length = n → ∀ p ∈ depAll L ws, p.2 ≤ n
  | 0, ws, h => by
    obtain rfl := List.eq_nil_of_length_eq_zero h
    intro p hp; cases hp
  | n + 1, ws, h => by
    rcases List.eq_nil_or_concat ws with rfl | ⟨l, x, rfl⟩
    · simp at h
    · rw [List.concat_eq_append] at h ⊢
      rw [List.length_append, List.length_singleton] at h
      have ih := depAll_le L n l (by omega)
      rw [depAll_snoc]
      intro p hp
      unfold depD at hp
      rcases List.mem_append.1 hp with hp | hp
      · have := ih p hp; omega
      · rw [List.mem_singleton.1 hp]
        have := maxD_le ih (partsW L x) 0 (Nat.zero_le _)
        simp only
        omega
theorem maxD_take (d : List (Int × Nat)) {ps : List Int} {j : Nat} (h : j < ps.length) : maxD d 0 (ps.take (j + 1)) = max (maxD d 0 (ps.take j)) (lookD d ps[j]) := by
  unfold maxD
  rw [List.take_succ_eq_append_getElem h, List.foldl_append]
  rfl
theorem lastD_snoc (d : List (Int × Nat)) (p : Int × Nat) : lastD (d ++ [p]) = p.2 := by unfold lastD; simp
/-- The depth that Depth tells. -/
def depthOf (L : List ObjA) (x : Int) : Nat := lastD (depAll L (objsOf L x))
/-- Between the rounds. s: where Depth's own memory begins. -/
structure DepSt (w : World) (s ba room : Nat) (O : Nat → Prop) (L : List ObjA) (cs : Nat → Prop) (pre : List Int) (W : World) : Prop where
  ar : ArAt W O ba room L
  fa : BlkIs W w.heap.size #[.pointer (some ⟨ba, 0, none⟩)] 24
  fm : BlkIs W (s + 1) #[.map (some s)] 136
  mp : W.heap[s]? = some (.map (entsD (depAll L pre)) (depAll L pre).length)
  fl : BlkIs W (s + 2) #[.int .i64 (lastD (depAll L pre) : Int)] 3
  c1 : cs s
  c2 : cs (s + 2)
  own : ∀ k, cs k → k = s ∨ k = s + 2
  base : Below w.heap.size w W
theorem DepSt.fr {w : World} {s ba room lo : Nat} {O : Nat → Prop} {L : List ObjA} {cs : Nat → Prop} {pre : List Int} {W V : World} (h : DepSt w s ba room O L cs pre W) (hf : Fr (fun k => lo ≤ k ∧ ¬ cs k) W V) (h1 : w.heap.size < s) (h2 : s + 2 < lo) (hO : ∀ k, O k → k < w.heap.size) : DepSt w s ba room O L cs pre V :=
  ⟨h.ar.fr hf (fun k hk e => by have := hO k hk; have := e.1; omega), h.fa.fr hf (fun e => by have := e.1; omega), h.fm.fr hf (fun e => by have := e.1; omega), (hf.block _ (Array.getElem?_eq_some_iff.1 h.mp).1 (fun e => e.2 h.c1)).trans h.mp, h.fl.fr hf (fun e => e.2 h.c2), h.c1, h.c2, h.own, h.base.trans (hf.below h.base.size fun k hk => by have := hk.1; omega)⟩
theorem DepSt.below {w : World} {s ba room : Nat} {O : Nat → Prop} {L : List ObjA} {cs : Nat → Prop} {pre : List Int} {W V : World} (h : DepSt w s ba room O L cs pre W) (hB : Below W.heap.size W V) : DepSt w s ba room O L cs pre V :=
  ⟨h.ar.below hB, h.fa.below hB, h.fm.below hB, (hB.block _ (Array.getElem?_eq_some_iff.1 h.mp).1).trans h.mp, h.fl.below hB, h.c1, h.c2, h.own, below_then h.base hB⟩
theorem DepSt.putObj {w : World} {s ba room lp : Nat} {O : Nat → Prop} {L : List ObjA} {cs : Nat → Prop} {pre : List Int} {W : World} (h : DepSt w s ba room O L cs pre W) {r : Loop} (o' : Obj) (hl : W.heap[lp]? = some (.loop r)) (h1 : s + 2 < lp) (h2 : w.heap.size < s) (hO : ∀ k, O k → k < w.heap.size) : DepSt w s ba room O L cs pre (W.putObj lp o') := by
  have hb : ∀ k, k < lp → (W.putObj lp o').heap[k]? = W.heap[k]? := fun k hk => World.putObj_heap_other (by omega)
  refine ⟨h.ar.same (by simp [World.putObj]) fun k hk => hb k (by have := hO k hk; omega), (hb _ (by omega)).trans h.fa, (hb _ (by omega)).trans h.fm, (hb _ (by omega)).trans h.mp, (hb _ (by omega)).trans h.fl, h.c1, h.c2, h.own, h.base.trans (belowK_b (w := w) (Nat.le_refl _) W _ _ o' (by omega) hl rfl rfl)⟩
/-- A round. -/
theorem DepSt.step {w : World} {s ba room : Nat} {O : Nat → Prop} {L : List ObjA} {cs : Nat → Prop} {pre : List Int} {W W1 W2 : World} {x v : Int} (h : DepSt w s ba room O L cs pre W) (hB : Below W.heap.size W W1) (h1 : w.heap.size < s) (hO : ∀ k, O k → k < w.heap.size) (hv : ((maxD (depAll L pre) 0 (partsW L x) + 1 : Nat) : Int) = v)
    (hm : W2.heap[s]? = some (.map (entsD (depAll L (pre ++ [x]))) (depAll L (pre ++ [x])).length)) (hg : W1.grownBy W2 (some s)) :
    DepSt w s ba room O L cs (pre ++ [x]) (W2.setCell ⟨s + 2, 0, none⟩ (.int .i64 v)) ∧ KpG cs cs W (W2.setCell ⟨s + 2, 0, none⟩ (.int .i64 v)) ∧ (∀ k, k < W.heap.size → k ≠ s → k ≠ s + 2 → (W2.setCell ⟨s + 2, 0, none⟩ (.int .i64 v)).heap[k]? = W.heap[k]?) ∧ BlkIs W2 (s + 2) #[.int .i64 (lastD (depAll L pre) : Int)] 3 := by
  have hz : (W2.setCell ⟨s + 2, 0, none⟩ (.int .i64 v)).heap.size = W2.heap.size := by simp [World.setCell]
  have hs1 := hB.size
  have hs2 := hg.size
  have hblk : ∀ k, k < W.heap.size → k ≠ s → k ≠ s + 2 → (W2.setCell ⟨s + 2, 0, none⟩ (.int .i64 v)).heap[k]? = W.heap[k]? := fun k hk e1 e2 => by
    rw [Below.heap_setCell _ _ _ _ (fun e => e2 e), hg.block k (by omega) (fun e => e1 (by injection e)), hB.block k hk]
  have hl2 : BlkIs W2 (s + 2) #[.int .i64 (lastD (depAll L pre) : Int)] 3 := (h.fl.below hB).grown hg (fun e => by injection e with e; omega)
  have hal := h.fa.lt
  have hml := h.fm.lt
  refine ⟨⟨h.ar.same (by omega) fun k hk => hblk k (h.ar.lim k hk).2 (by have := hO k hk; omega) (by have := hO k hk; omega), (hblk _ hal (by omega) (by omega)).trans h.fa, (hblk _ hml (by omega) (by omega)).trans h.fm, ?_, ?_, h.c1, h.c2, h.own, ?_⟩, ⟨by omega, fun k o hk ho _ => ?_, fun k hk => ⟨.inl hk, ?_⟩⟩, hblk, hl2⟩
  · rw [Below.heap_setCell _ _ _ _ (fun e => by simp at e)]
    exact hm
  · have := hl2.set 0 (.int .i64 v)
    rw [depAll_snoc]
    unfold depD
    rw [lastD_snoc]
    simp only
    rw [hv]
    exact this
  · have hb0 := below_then h.base hB
    have hb1 : Below w.heap.size w W2 := hb0.grown hg hb0.size (fun k e => by injection e with e; omega)
    exact hb1.setCell (p := ⟨s + 2, 0, none⟩) (by simp; omega) _
  · rw [hblk k (lt_of_block ho) (fun e => hk (e ▸ h.c1)) (fun e => hk (e ▸ h.c2))]
    exact ho
  · have := h.fl.lt
    rcases h.own k hk with rfl | rfl <;> omega
def depWorld (w1 : World) : World := ((w1.alloc (.map #[] 0)).alloc (.cells #[.map (some w1.heap.size)] 136)).alloc (.cells #[.int .i64 0] 3)
def objWorld (p0 : Option Addr) (x : Int) (w : World) : World := (w.alloc (.cells #[.pointer p0] 24)).alloc (.cells #[.int .u64 x] 27)
theorem dep_start {w w1 : World} {O : Nat → Prop} {ba room : Nat} {L : List ObjA} (x : Int) (hA : ArAt w O ba room L) (hB : Below w.heap.size w w1) (hlt : w.heap.size < w1.heap.size) (hBA : BlkIs w1 w.heap.size #[.pointer (some ⟨ba, 0, none⟩)] 24) :
    DepSt w w1.heap.size ba room O L (fun k => k = w1.heap.size ∨ k = w1.heap.size + 2) [] (objWorld (some ⟨ba, 0, none⟩) x (depWorld w1)) ∧ (objWorld (some ⟨ba, 0, none⟩) x (depWorld w1)).heap.size = w1.heap.size + 5 ∧ (objWorld (some ⟨ba, 0, none⟩) x (depWorld w1)).cell? ⟨w1.heap.size + 3, 0, none⟩ = some (.pointer (some ⟨ba, 0, none⟩)) ∧ (objWorld (some ⟨ba, 0, none⟩) x (depWorld w1)).cell? ⟨w1.heap.size + 4, 0, none⟩ = some (.int .u64 x) := by
  have b1 := below_one w1 (.map #[] 0)
  have b2 := below_one (w1.alloc (.map #[] 0)) (.cells #[.map (some w1.heap.size)] 136)
  have b3 := below_one ((w1.alloc (.map #[] 0)).alloc (.cells #[.map (some w1.heap.size)] 136)) (.cells #[.int .i64 0] 3)
  have b4 := below_alloc' (below_one (depWorld w1) (.cells #[.pointer (some ⟨ba, 0, none⟩)] 24)) (.cells #[.int .u64 x] 27)
  have hz : (depWorld w1).heap.size = w1.heap.size + 3 := by simp [depWorld]
  have hbd : Below w1.heap.size w1 (depWorld w1) := below_alloc' (below_alloc' b1 _) _
  have hbo : Below w1.heap.size w1 (objWorld (some ⟨ba, 0, none⟩) x (depWorld w1)) := below_then hbd b4
  have f1 : (depWorld w1).heap[w1.heap.size]? = some (.map #[] 0) := (b3.block _ (by simp only [World.size_alloc]; omega)).trans ((b2.block _ (by simp only [World.size_alloc]; omega)).trans (heap_alloc_new w1 _))
  have f2 : (depWorld w1).heap[w1.heap.size + 1]? = some (.cells #[.map (some w1.heap.size)] 136 (0, 0)) := (b3.block _ (by simp only [World.size_alloc]; omega)).trans (by
    have h := heap_alloc_new (w1.alloc (.map #[] 0)) (.cells #[.map (some w1.heap.size)] 136)
    rw [World.size_alloc] at h
    exact h)
  have f3 : (depWorld w1).heap[w1.heap.size + 2]? = some (.cells #[.int .i64 0] 3 (0, 0)) := by
    have h := heap_alloc_new ((w1.alloc (.map #[] 0)).alloc (.cells #[.map (some w1.heap.size)] 136)) (.cells #[.int .i64 0] 3)
    rw [World.size_alloc, World.size_alloc] at h
    exact h
  refine ⟨⟨hA.below (below_then hB hbo), hBA.below hbo, (b4.block _ (by omega)).trans f2, (b4.block _ (by omega)).trans f1, (b4.block _ (by omega)).trans f3, .inl rfl, .inr rfl, fun k hk => hk, below_then hB hbo⟩, by simp [objWorld, hz], ?_, ?_⟩
  · have h := (Boxed.new (depWorld w1) 24 (.pointer (some ⟨ba, 0, none⟩))).alloc (.cells #[.int .u64 x] 27)
    rw [hz] at h
    exact h.cell
  · have h := Boxed.new ((depWorld w1).alloc (.cells #[.pointer (some ⟨ba, 0, none⟩)] 24)) 27 (.int .u64 x)
    rw [World.size_alloc, hz] at h
    exact h.cell
set_option maxRecDepth 100000 in
set_option maxHeartbeats 8000000 in
theorem depth_in (n : Nat) (hn : 7 ≤ n) (w : World) (O : Nat → Prop) (ba room : Nat) (L : List ObjA) (x : Int) (hA : ArAt w O ba room L) (h0 : 0 ≤ x) (h1 : x < 18446744073709551616) (hf : (findA L x).isSome = true) :
    CallsIn Fence.wide n Tryd.prog 39 #[.pointer (some ⟨ba, 0, none⟩), .int .u64 x] w fun e V => e = .returned (.tuple #[.int .i64 (depthOf L x : Int), .int .i64 0]) ∧ Below w.heap.size w V := by
  have hn1 : 1 ≤ n := by omega
  have hF1 : Fence.wide.fn 82 := trivial
  have hF2 : Fence.wide.fn 83 := trivial
  have hwf := hA.wf
  have hlims := hA.lims
  have hll := hwf.len
  have hfx : FindOk L x := ⟨hf, h0, h1⟩
  have hmo := vis_ok hwf (m := []) ⟨List.nodup_nil, fun x hx => (by cases hx)⟩ hfx
  have hob : objsOf L x = visW L [] x := by unfold objsOf; rw [if_pos hf]
  rw [← hob] at hmo
  have hol := hmo.len
  obtain ⟨ws, hws⟩ : ∃ ws, objsOf L x = ws := ⟨_, rfl⟩
  have hdep : depthOf L x = lastD (depAll L ws) := by unfold depthOf; rw [hws]
  rw [hws] at hmo hol
  have hB0 := below_one w (.cells #[.pointer (some ⟨ba, 0, none⟩)] 24)
  have BA : BlkIs (w.alloc (.cells #[.pointer (some ⟨ba, 0, none⟩)] 24)) w.heap.size #[.pointer (some ⟨ba, 0, none⟩)] 24 := heap_new w _
  have a0 := BA.cell 0 (v := .pointer (some ⟨ba, 0, none⟩)) rfl
  have hiw := isword_any (w.alloc (.cells #[.pointer (some ⟨ba, 0, none⟩)] 24)) O ba room L x h0 h1 (hA.below hB0)
  rw [hf] at hiw
  have hO := fun k hk => (hA.lim k hk).2
  have HA := Lib.hid hA
  have HWF := Lib.hid hwf
  have HMO := Lib.hid hmo
  have HBA := Lib.hid BA
  have HB0 := Lib.hid hB0
  have HO := Lib.hid hO
  have HWS := Lib.hid hws
  have hmm := @run_makeMap Tryd.prog
  rw [hdep]
  clear hA hwf hmo hfx hob hdep BA hB0 hO hws hf
  refine callsIn_of_wp_marks Tryd.func39 rfl trivial ?_ rfl
  simp only [Tryd.ntmps39, List.size_toArray, List.length_cons, List.length_nil, Nat.reduceAdd, Nat.reduceSub, Array.replicate_succ, Array.replicate_zero, List.push_toArray, List.append_toArray, List.nil_append, List.cons_append]
  gi_wp2_with (first
    | (gi_at_call 83; refine (callsIn_wide.2 hiw).mono ?_; rintro e w1 ⟨rfl, hb1⟩; have HB1 := Lib.hid (below_then HB0.out hb1); have a1 := cell_below hb1 a0; have HBA1 := Lib.hid (HBA.out.below hb1); have hlt : w.heap.size < w1.heap.size := (by have := hb1.size; rw [World.size_alloc] at this; omega); have a2 := cell_below (below_alloc' (below_alloc' (below_one w1 (.map #[] 0)) (.cells #[.map (some w1.heap.size)] 136)) (.cells #[.int .i64 0] 3)) a1)
    | (gi_at_call 82; refine (callsIn_wide.2 (objs_any (some ⟨ba, 0, none⟩) x _)).mono ?_; rintro e w2 ⟨rfl, hw2⟩; have hw3 : Hid (w2 = objWorld (some ⟨ba, 0, none⟩) x (depWorld w1)) := Lib.hid hw2; clear hw2))
  obtain ⟨hst, hz, hx0, hx1⟩ := dep_start x HA.out HB1.out hlt HBA1.out
  have HST := Lib.hid hst
  clear hmm hiw hb1 a0 a1 a2 hst
  rw [← hw3.out] at hz HST hx0 hx1
  have HSQ := Lib.hid (objs1_gh (n - 1) (by omega) (w2.heap.size + 1) (w1.heap.size + 3) (w1.heap.size + 4) w2 O ba room L x HST.out.ar h0 h1 hx0 hx1)
  rw [HWS.out] at HSQ
  have HLT := Lib.hid hlt
  clear hw3 hx0 hx1 HWS
  refine range_gh rfl hn1 (gf := 125) (lb := #[.pointer (some ⟨w1.heap.size + 3, 0, none⟩), .pointer (some ⟨w1.heap.size + 4, 0, none⟩)]) rfl trivial (enters_of Tryd.func125 (by kernel_rfl) rfl) rfl HSQ.out (fun k => k = w1.heap.size ∨ k = w1.heap.size + 2) (fun k hk => ⟨by omega, fun ho => by have := HO.out k ho; omega⟩)
    (fun cs pre W => DepSt w w1.heap.size ba room O L cs pre W)
    (fun cd cs pre W => False)
    ?gI ?sI ?sIx ?h0
    (fun y => { tmps := #[.pointer (some ⟨ba, 0, none⟩), .int .u64 x, .pointer (some ⟨w.heap.size, 0, none⟩), undef, .int .i64 0, .int .i64 0, .pointer (some ⟨w1.heap.size + 1, 0, none⟩), .pointer (some ⟨w1.heap.size + 1 + 1, 0, none⟩), .int .u64 y, undef, undef, undef, undef, .bool false, .pointer (some ⟨ba, 0, none⟩), .bool false, .bool false, .pointer (some ⟨ba, 0, none⟩), .int .u64 x, .bool true, .bool false, .map (some w1.heap.size), .pointer (some ⟨ba, 0, none⟩), .int .u64 x, .func (.func 125) #[] #[.pointer (some ⟨w1.heap.size + 3, 0, none⟩), .pointer (some ⟨w1.heap.size + 4, 0, none⟩)], .int .u64 y, undef, undef, undef, undef, undef, undef, undef, undef, undef, undef, undef, undef, undef, undef, undef, undef, undef, undef, undef, undef, undef, undef, undef, undef, undef, undef], defers := [] }) ?assign ?body ?done ?stop
  case gI =>
    intro cs pre W V h hf
    exact h.fr hf hlt (by omega) HO.out
  case sI =>
    intro cs pre W r o hl h
    exact h.putObj o hl (by omega) hlt HO.out
  case sIx => exact fun cd cs pre W r o hl h => h
  case h0 => exact HST.out
  case assign =>
    intro y W K hK
    gi_wp2
    exact hK
  case body =>
    intro cs pre y W hst hcs hpre hsz
    have hF3 : Fence.wide.fn 87 := trivial
    have hF4 : Fence.wide.fn 88 := trivial
    have hn3 : 1 ≤ n - 1 - 1 := by omega
    have hyo := (HMO.out.ok y (hpre.subset (by simp))).1
    have hnd := HMO.out.nodup.sublist hpre.sublist
    have hyn : y ∉ pre := fun hm => by
      have := (List.nodup_append.1 hnd).2.2 y hm y (by simp)
      exact this rfl
    have hnk : ∀ p ∈ depAll L pre, p.1 ≠ y := fun p hp e => hyn (by
      have := List.mem_map_of_mem (f := Prod.fst) hp
      rw [depAll_keys] at this
      rw [← e]
      exact this)
    have hpl := hpre.length_le
    rw [List.length_append, List.length_singleton] at hpl
    have hdl := depAll_le L _ pre rfl
    have hps := parts_any W O ba room L y hyo.2.1 hyo.2.2 hst.ar
    obtain ⟨P, hP⟩ : ∃ P, partsW L y = P := ⟨_, rfl⟩
    have hpp := parts_len HWF.out y
    rw [hP] at hps hpp
    have a0 := hst.fa.cell 0 (v := .pointer (some ⟨ba, 0, none⟩)) rfl
    have HS := Lib.hid hst
    have HPP := Lib.hid hP
    have HNK := Lib.hid hnk
    have HDL := Lib.hid hdl
    clear hst hcs hpre hnd hyn hnk hP hdl
    gi_wp2_with (gi_at_call 87; refine (CallsIn.inRound _ (callsIn_wide.2 hps)).mono ?_; rintro e w3 ⟨rfl, hb3⟩; have HB3 := Lib.hid hb3)
    obtain ⟨d, hd⟩ : ∃ d, depAll L pre = d := ⟨_, rfl⟩
    have HD := Lib.hid hd
    have hdm : ∀ ps : List Int, maxD d 0 ps ≤ pre.length := fun ps => maxD_le (by rw [← hd]; exact HDL.out) ps 0 (Nat.zero_le _)
    have HDM := Lib.hid hdm
    have HW3 := Lib.hid (HS.out.below HB3.out)
    clear hps a0 hd hdm hb3
    gi_loopw [9, 29] (fun s9 i wr => ∃ j : Nat, j ≤ P.length ∧ i = .int .i64 (j : Int) ∧ s9 = .int .i64 (maxD d 0 (P.take j) : Int) ∧ Hid (Below W.heap.size W wr)) (fun s9 i wr => P.length - (intOf i).toNat)
    case atStart => exact ⟨0, Nat.zero_le _, rfl, rfl, HB3⟩
    case round =>
      obtain ⟨j, hj, rfl, rfl, hB⟩ := hrel
      have HR := Lib.hid (HS.out.below hB.out)
      have a0 := HR.out.fa.cell 0 (v := .pointer (some ⟨ba, 0, none⟩)) rfl
      have m0 := HR.out.fm.cell 0 (v := .map (some w1.heap.size)) rfl
      have hmx := HDM.out (P.take j)
      by_cases hlt2 : j < P.length
      · obtain ⟨e1, e2⟩ := part_at HWF.out HPP.out hlt2
        have hap := apart_any wr O ba room L y (j : Int) hyo.2.1 hyo.2.2 HR.out.ar
        obtain ⟨q, hq⟩ : ∃ q, P[j] = q := ⟨_, rfl⟩
        rw [e1, e2, hq] at hap
        have hmt := maxD_take d hlt2
        rw [hq] at hmt
        have HMT := Lib.hid hmt
        have hlk := fun W' (hB' : Below wr.heap.size wr W') => run_lookD W' w1.heap.size d q (by have := (HR.out.below hB').mp; rw [HD.out] at this; exact this)
        have hlt3 : decide ((j : Int) < (P.length : Int)) = true := decide_eq_true (by omega)
        have hlkd : lookD d q ≤ pre.length := look_le (by rw [← HD.out]; exact HDL.out) q
        obtain ⟨K, hK⟩ : ∃ K, lookD d q = K := ⟨_, rfl⟩
        obtain ⟨Mx, hMx⟩ : ∃ Mx, maxD d 0 (P.take j) = Mx := ⟨_, rfl⟩
        rw [hK] at hlk hlkd HMT
        rw [hMx] at hmx HMT ⊢
        clear e1 e2 hmt hK hMx hq
        gi_wp2_with (gi_at_call 88; refine (CallsIn.inRound _ (callsIn_wide.2 hap)).mono ?_; rintro e w4 ⟨rfl, hb4⟩; have HB4 := Lib.hid (below_then hB.out hb4); have m1 := cell_below hb4 m0; have hlk4 := hlk w4 hb4)
        clear hlk hlk4 hap m0 m1 a0 hb4
        go_roundw
        case rel => exact ⟨j + 1, hlt2, by go_num, by rw [HMT.out]; congr 1; omega, HB4⟩
        case measure => simp [intOf]; omega
      · obtain rfl : j = P.length := by omega
        rw [List.take_length] at hmx ⊢
        have hlt3 : decide ((P.length : Int) < (P.length : Int)) = false := decide_eq_false (by omega)
        have hmp := HR.out.mp
        rw [HD.out] at hmp
        have hnk := HNK.out
        rw [HD.out] at hnk
        have HEV := Lib.hid (show depAll L (pre ++ [y]) = d ++ [(y, maxD d 0 P + 1)] by rw [depAll_snoc, HD.out]; unfold depD; rw [HPP.out])
        have HEN := Lib.hid (show maxD (depAll L pre) 0 (partsW L y) = maxD d 0 P by rw [HD.out, HPP.out])
        obtain ⟨N, hN⟩ : ∃ N, maxD d 0 P = N := ⟨_, rfl⟩
        rw [hN] at hmx HEV HEN ⊢
        obtain ⟨w5, hup, hm5, hg5⟩ := run_putD wr w1.heap.size d y ((N : Int) + 1) (N + 1) (by omega) hmp hnk
        rw [← HEV.out] at hm5
        have hwr : IntKind.i64.wrap ((N : Int) + 1) = (N : Int) + 1 := by rw [IntKind.wrap_i64]; omega
        have HSP := Lib.hid (HS.out.step hB.out hlt HO.out (x := y) (v := (N : Int) + 1) (by rw [HEN.out]; omega) hm5 hg5)
        have l0 := HSP.out.2.2.2.cell 0 (v := .int .i64 (lastD (depAll L pre) : Int)) rfl
        have l1 := HSP.out.2.2.2.frozen 0
        clear hm5 hg5 hmp hnk hN a0 hj
        gi_wp2
        obtain ⟨k1, k2, k3, _⟩ := HSP.out
        exact ⟨⟨k3 _ (by omega) (by omega) (by omega), k3 _ (by omega) (by omega) (by omega)⟩, cs, k2, k1⟩
  case done =>
    intro cs W hst hK
    have hl := hst.fl.cell 0 (v := .int .i64 (lastD (depAll L ws) : Int)) rfl
    have HH := Lib.hid hst.base
    clear hst
    gi_wp2
    refine ⟨by simp, .inl ⟨_, _, rfl, run_takeDeferred hK, ?_⟩⟩
    exact ⟨_, results_tmp2 rfl _ _ _, rfl, HH.out.trans (belowK_b (w := w) (Nat.le_refl _) W _ _ _ (by omega) hK rfl rfl)⟩
  case stop =>
    intro cd cs pre W hS h
    exact h.elim
theorem depth_any (w : World) (O : Nat → Prop) (ba room : Nat) (L : List ObjA) (x : Int) (hA : ArAt w O ba room L) (h0 : 0 ≤ x) (h1 : x < 18446744073709551616) (hf : (findA L x).isSome = true) :
    Calls Tryd.prog 39 #[.pointer (some ⟨ba, 0, none⟩), .int .u64 x] w fun e V => e = .returned (.tuple #[.int .i64 (depthOf L x : Int), .int .i64 0]) ∧ Below w.heap.size w V :=
  callsIn_wide.1 (depth_in 7 (by omega) w O ba room L x hA h0 h1 hf)
theorem depth_none (w : World) (O : Nat → Prop) (ba room : Nat) (L : List ObjA) (x : Int) (hA : ArAt w O ba room L) (h0 : 0 ≤ x) (h1 : x < 18446744073709551616) (hf : (findA L x).isSome = false) :
    Calls Tryd.prog 39 #[.pointer (some ⟨ba, 0, none⟩), .int .u64 x] w fun e V => e = .returned (.tuple #[.int .i64 0, .int .i64 31]) ∧ Below w.heap.size w V := by
  have hB0 := below_one w (.cells #[.pointer (some ⟨ba, 0, none⟩)] 24)
  have hiw := isword_any (w.alloc (.cells #[.pointer (some ⟨ba, 0, none⟩)] 24)) O ba room L x h0 h1 (hA.below hB0)
  rw [hf] at hiw
  clear hA hf
  go_enter Tryd.func39, Tryd.ntmps39
  go_wp2_with fail
  refine hiw.mono ?_
  rintro e w1 ⟨rfl, hB⟩
  go_wp2
  go_ret2
  exact ⟨rfl, below_then hB0 hB⟩
theorem depth_nil (w : World) (x : Int) : Calls Tryd.prog 39 #[.pointer none, .int .u64 x] w fun e w' => e = .returned (.tuple #[.int .i64 0, .int .i64 2]) ∧ Below w.heap.size w w' := by
  have hB := below_one w (.cells #[.pointer none] 24)
  go_enter Tryd.func39, Tryd.ntmps39
  go_wp2
  go_ret2
  exact ⟨rfl, hB⟩
end Go.Proofs.YthgnihckeckaiaaDoor.Tm
