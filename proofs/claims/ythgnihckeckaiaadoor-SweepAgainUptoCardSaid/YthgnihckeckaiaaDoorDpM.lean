/- The walk's memory: what is met, and the stack. -/
import Derived.Test.YthgnihckeckaiaaDoorDpG
import Derived.Test.YthgnihckeckaiaaDoorDpP
namespace Go.Proofs.YthgnihckeckaiaaDoor.Tm
open Go.RowKit
set_option linter.unusedVariables false
set_option linter.unusedSimpArgs false

theorem cells_rec {w : World} {b i : Nat} {v : Value} (h : w.cell? ⟨b, i, none⟩ = some v) : ∃ o, w.heap[b]? = some o ∧ recO o = false := by
  unfold World.cell? at h
  cases ho : w.heap[b]? with
  | none => simp [ho] at h
  | some o => exact ⟨o, rfl, by cases o <;> simp_all [recO]⟩
theorem row_obj {w : World} {base n : Nat} {e : TypeId} {size : Nat} {v : Value} {xs : List Value} (h : w.ownsRow base e size v n xs) : ∀ k, v.ownBlock = some k → ∃ o, w.heap[k]? = some o ∧ recO o = false := by
  intro k hk
  rcases h.2 with ⟨rfl, _⟩ | ⟨g, cap, cur, rfl, _, hg, _⟩
  · simp [Value.ownBlock] at hk
  · have e : g = k := by simpa [Value.ownBlock] using hk
    subst e
    exact ⟨_, hg, rfl⟩
/-- An arena stands where all but records is kept. -/
theorem ar_kept {a b : World} {O : Nat → Prop} {ba room : Nat} {l : List ObjA} (h : ArAt a O ba room l) (hs : a.heap.size ≤ b.heap.size) (hb : ∀ k o, O k → a.heap[k]? = some o → recO o = false → b.heap[k]? = some o) : ArAt b O ba room l := by
  obtain ⟨bm, vO, vW, vs, h⟩ := h
  have hrow : ∀ {e : TypeId} {size n : Nat} {v : Value} {xs : List Value}, a.ownsRow 3 e size v n xs → (∀ k, v.ownBlock = some k → O k) → b.ownsRow 3 e size v n xs := fun hr ho => row_of_block hr fun k hk => by
    obtain ⟨o, h1, h2⟩ := row_obj hr k hk
    rw [h1]
    exact hb k o (ho k hk) h1 h2
  refine ⟨bm, vO, vW, vs, hb ba _ h.oba h.blk rfl, hb bm _ h.obm h.map rfl, hrow h.ro fun k hk => (h.oO k hk).1, hrow h.rw fun k hk => (h.oW k hk).1, h.vl,
    fun i h1 h2 => ?_, h.oba, h.obm, h.oO, h.oW, fun k hk => ⟨(h.lim k hk).1, by have := (h.lim k hk).2; omega⟩, h.wf, h.room_le, h.used_le⟩
  obtain ⟨A, c, e1, e2, e3, e4⟩ := h.ps i h1 h2
  refine ⟨A, c, e1, e2, fun j hj => ?_, e4⟩
  obtain ⟨g, o, eA, hc⟩ := e3 j hj
  obtain ⟨ob, ho1, ho2⟩ := cells_rec hc
  exact ⟨g, o, eA, (cell_of_same (a := ⟨g, o + j, none⟩) (by rw [hb g ob (e4 g o eA).1 ho1 ho2, ho1])).trans hc⟩

/-! a map of words to what is true of each -/
def entsMF : Nat → List Int → List MapEntry
  | _, [] => []
  | i, x :: m => ⟨.int .u64 x, .bool true, i⟩ :: entsMF (i + 1) m
def entsM (m : List Int) : Array MapEntry := (entsMF 0 m).toArray
theorem entsMF_snoc : ∀ (i : Nat) (m : List Int) (x : Int), entsMF i (m ++ [x]) = entsMF i m ++ [⟨.int .u64 x, .bool true, i + m.length⟩]
  | i, [], x => by simp [entsMF]
  | i, y :: m, x => by
    rw [List.cons_append, entsMF, entsMF_snoc, entsMF, List.cons_append]
    rw [show i + 1 + m.length = i + (y :: m).length by simp; omega]
theorem findNow_m (a : Int) : ∀ (m : List Int) (i n : Nat), (a ∈ m → ∃ k, Instr.findNow (.int .u64) (.int .u64 a) (entsMF i m) n = some (some (k, .bool true))) ∧ (a ∉ m → Instr.findNow (.int .u64) (.int .u64 a) (entsMF i m) n = some none)
  | [], _, _ => ⟨fun h => (by cases h), fun _ => rfl⟩
  | x :: m, i, n => by
    rw [entsMF]
    unfold Instr.findNow
    by_cases h : a = x
    · subst h
      exact ⟨fun _ => ⟨n, by simp [Instr.sameNow]⟩, fun hn => absurd (by simp) hn⟩
    · have e : (a == x) = false := beq_eq_false_iff_ne.2 h
      simp only [Instr.sameNow, if_true, e]
      obtain ⟨h1, h2⟩ := findNow_m a m (i + 1) (n + 1)
      refine ⟨fun hm => ?_, fun hm => ?_⟩
      · rcases List.mem_cons.1 hm with h' | h'
        · exact absurd h' h
        · exact h1 h'
      · exact h2 (fun h' => hm (by simp [h']))
theorem run_met (w : World) (bm : Nat) (m : List Int) (a : Int) (hm : w.heap[bm]? = some (.map (entsM m) m.length)) :
    (a ∈ m → (Instr.lookup 142 (.map (some bm)) (.int .u64 a) false).run Tryd.prog w = .ok (.bool true) w) ∧
    (a ∉ m → (Instr.lookup 142 (.map (some bm)) (.int .u64 a) false).run Tryd.prog w = .ok (.bool false) w) := by
  have hz : (zeroValue 4).run Tryd.prog w = .ok (.bool false) w := by kernel_rfl
  have hc := MapKept.run_checkKey (P := Tryd.prog) (w := w) (kt := 27) (k := .int .u64 a) Tryd.underlying27 rfl (entsM m).isEmpty 9999
  obtain ⟨f1, f2⟩ := findNow_m a m 0 0
  refine ⟨fun h => ?_, fun h => ?_⟩
  · obtain ⟨k, hk⟩ := f1 h
    have hf := MapKept.run_findKey (P := Tryd.prog) (w := w) (kt := 27) (k := .int .u64 a) (l := (entsM m).toList) Tryd.underlying27 (show Instr.findNow (.int .u64) (.int .u64 a) (entsMF 0 m) 0 = _ from hk)
    simp [Instr.lookup, run_underlying Tryd.underlying142, MapKept.run_getObj_map hm, hc, hf, Result.andThen]
  · have hf := MapKept.run_findKey (P := Tryd.prog) (w := w) (kt := 27) (k := .int .u64 a) (l := (entsM m).toList) Tryd.underlying27 (show Instr.findNow (.int .u64) (.int .u64 a) (entsMF 0 m) 0 = _ from f2 h)
    simp [Instr.lookup, run_underlying Tryd.underlying142, MapKept.run_getObj_map hm, hc, hf, hz, Result.andThen]
theorem run_meet (w : World) (bm : Nat) (m : List Int) (a : Int) (hm : w.heap[bm]? = some (.map (entsM m) m.length)) (hn : a ∉ m) :
    ∃ w', (Instr.mapUpdate 142 (.map (some bm)) (.int .u64 a) (.bool true)).run Tryd.prog w = .ok () w' ∧ w'.heap[bm]? = some (.map (entsM (m ++ [a])) (m ++ [a]).length) ∧ w.grownBy w' (some bm) := by
  have hf := MapKept.run_findKey (P := Tryd.prog) (w := w) (kt := 27) (k := .int .u64 a) (l := (entsM m).toList) Tryd.underlying27 (show Instr.findNow (.int .u64) (.int .u64 a) (entsMF 0 m) 0 = _ from (findNow_m a m 0 0).2 hn)
  have hc := MapKept.run_checkKey (P := Tryd.prog) (w := w) (kt := 27) (k := .int .u64 a) Tryd.underlying27 rfl false 9999
  have hs := MapKept.run_setObj_map (P := Tryd.prog) (w := w) (.map ((entsM m).push ⟨.int .u64 a, .bool true, m.length⟩) (m.length + 1)) hm
  refine ⟨{ w with heap := w.heap.setIfInBounds bm (.map ((entsM m).push ⟨.int .u64 a, .bool true, m.length⟩) (m.length + 1)) }, ?_, ?_, ?_⟩
  rotate_left
  · have e : entsM (m ++ [a]) = (entsM m).push ⟨.int .u64 a, .bool true, m.length⟩ := by
      unfold entsM
      rw [entsMF_snoc]
      simp
    rw [e, List.length_append, List.length_singleton]
    exact (MapKept.heap_set hm).1
  · exact ⟨rfl, rfl, rfl, by simp, fun i _ hi => (MapKept.heap_set hm).2 i (fun e => hi (by rw [e]))⟩
  · simp [Instr.mapUpdate, run_underlying Tryd.underlying142, MapKept.run_getObj_map hm, hc, hf, hs, Result.andThen]

/-! the stack -/
def encP (s : Int × Nat) : List Value := [.int .u64 s.1, .int .i64 (s.2 : Int)]
def encPs (st : List (Int × Nat)) : List Value := st.flatMap encP
theorem encPs_len (st : List (Int × Nat)) : (encPs st).length = st.length * 2 := by
  unfold encPs
  induction st with
  | nil => rfl
  | cons a l ih => simp [encP] at ih ⊢; omega
theorem encPs_snoc (st : List (Int × Nat)) (s : Int × Nat) : encPs (st ++ [s]) = encPs st ++ encP s := by simp [encPs]
theorem step_info : (Tryd.prog.info? 183).map (fun i => (i.zero, i.size, i.bytes)) = some (some (.agg #[.int .u64 0, .int .i64 0]), 2, 16) := by kernel_rfl
theorem one2s {x k : Int} : ∀ u ∈ ([.int .u64 x, .int .i64 k] : List Value), u.oneCell' = true := by
  intro u hu
  simp at hu
  rcases hu with rfl | rfl <;> rfl
/-- The walk's own memory in a world: lo: from where it is its own; bm: the map; cs: another's blocks. -/
structure WalkRep (lo bm : Nat) (O cs : Nat → Prop) (ba room : Nat) (L : List ObjA) (m : List Int) (st : List (Int × Nat)) (v : Value) (wr : World) : Prop where
  ar : ArAt wr O ba room L
  map : wr.heap[bm]? = some (.map (entsM m) m.length)
  row : wr.ownsRow lo 183 2 v st.length (encPs st)
  lob : lo ≤ bm
  los : lo ≤ wr.heap.size
  olo : ∀ k, O k → k < lo ∧ ¬ cs k
  csl : ∀ k, cs k → k < wr.heap.size
  nb : ¬ cs bm
  nr : ∀ g, v.ownBlock = some g → ¬ cs g ∧ g ≠ bm
/-- What the walk may write. -/
def Mine (lo : Nat) (cs : Nat → Prop) (k : Nat) : Prop := lo ≤ k ∧ ¬ cs k
theorem WalkRep.below {lo bm : Nat} {O cs : Nat → Prop} {ba room : Nat} {L : List ObjA} {m : List Int} {st : List (Int × Nat)} {v : Value} {wr w' : World} (h : WalkRep lo bm O cs ba room L m st v wr) (hB : Below wr.heap.size wr w') : WalkRep lo bm O cs ba room L m st v w' :=
  ⟨h.ar.below hB, (hB.block _ (Array.getElem?_eq_some_iff.1 h.map).1).trans h.map, row_below h.row hB, h.lob, Nat.le_trans h.los hB.size, h.olo, fun k hk => Nat.lt_of_lt_of_le (h.csl k hk) hB.size, h.nb, h.nr⟩
theorem WalkRep.mapLt {lo bm : Nat} {O cs : Nat → Prop} {ba room : Nat} {L : List ObjA} {m : List Int} {st : List (Int × Nat)} {v : Value} {wr : World} (h : WalkRep lo bm O cs ba room L m st v wr) : bm < wr.heap.size := (Array.getElem?_eq_some_iff.1 h.map).1
/-- One is put on top. -/
theorem WalkRep.push {lo bm : Nat} {O cs : Nat → Prop} {ba room : Nat} {L : List ObjA} {m : List Int} {st : List (Int × Nat)} {v v' : Value} {wr wa w' : World} (h : WalkRep lo bm O cs ba room L m st v wr) (hB : Below wr.heap.size wr wa) (hg : wa.grownBy w' v.ownBlock) {x : Int} {k : Nat}
    (hrow : w'.ownsRow lo 183 2 v' (st.length + 1) (encPs st ++ [.int .u64 x, .int .i64 (k : Int)])) (hat : v'.ownBlock = v.ownBlock ∨ v'.ownBlock = some wa.heap.size) :
    WalkRep lo bm O cs ba room L m (st ++ [(x, k)]) v' w' ∧ Fr (Mine lo cs) wr w' := by
  have h' := h.below hB
  have hlim := h'.ar.lim
  have hlo := h'.los
  refine ⟨⟨h'.ar.same hg.size fun k hk => hg.block k (hlim k hk).2 (fun e => by have := row_base h'.row k e.symm; have := (h'.olo k hk).1; omega), ?_, ?_, h.lob, Nat.le_trans hlo hg.size, h.olo, fun k hk => Nat.lt_of_lt_of_le (h'.csl k hk) hg.size, h.nb, fun g hgv => ?_⟩, ?_⟩
  · rw [hg.block bm h'.mapLt (fun e => (h.nr bm e.symm).2 rfl)]
    exact h'.map
  · rw [List.length_append, List.length_singleton, encPs_snoc]
    exact hrow
  · rcases hat with e | e
    · exact h.nr g (by rw [← e]; exact hgv)
    · rw [hgv] at e
      injection e with e
      subst e
      exact ⟨fun hc => by have := h'.csl _ hc; omega, fun e => by have := h'.mapLt; omega⟩
  · exact (Fr.of_below hB).trans (Fr.of_grown hg fun k hk => ⟨row_base h.row k hk, (h.nr k hk).1⟩)
theorem WalkRep.last {lo bm : Nat} {O cs : Nat → Prop} {ba room : Nat} {L : List ObjA} {m : List Int} {st : List (Int × Nat)} {x : Int} {k : Nat} {v : Value} {wr : World} (h : WalkRep lo bm O cs ba room L m (st ++ [(x, k)]) v wr) :
    ∃ g cap, v = .slice (some ⟨g, 0, none⟩) (st.length + 1) cap ∧ st.length + 1 ≤ cap ∧ wr.cell? ⟨g, st.length * 2, none⟩ = some (.int .u64 x) ∧ wr.cell? ⟨g, st.length * 2 + 1, none⟩ = some (.int .i64 (k : Int)) ∧ wr.frozen? ⟨g, st.length * 2 + 1, none⟩ = false := by
  have hr := h.row
  rw [List.length_append, List.length_singleton, encPs_snoc] at hr
  rcases hr.2 with ⟨_, h0⟩ | ⟨g, cap, cur, rfl, _, _, hc, _⟩
  · omega
  · have hl := encPs_len st
    refine ⟨g, cap, rfl, hc, ?_, ?_, hr.frozenAt _⟩
    all_goals
      rw [hr.cellAt _ (by omega), List.getElem?_append_right (by omega), hl]
      simp [encP]
theorem WalkRep.pop {lo bm : Nat} {O cs : Nat → Prop} {ba room : Nat} {L : List ObjA} {m : List Int} {st : List (Int × Nat)} {s : Int × Nat} {g cap : Nat} {wr : World} (h : WalkRep lo bm O cs ba room L m (st ++ [s]) (.slice (some ⟨g, 0, none⟩) (st.length + 1) cap) wr) :
    WalkRep lo bm O cs ba room L m st (.slice (some ⟨g, 0, none⟩) st.length cap) wr := by
  have hr := h.row
  rw [List.length_append, List.length_singleton, encPs_snoc] at hr
  exact ⟨h.ar, h.map, ownsRow_pop (encPs_len st) hr, h.lob, h.los, h.olo, h.csl, h.nb, h.nr⟩
/-- The highest goes on by one. -/
theorem WalkRep.bump {lo bm : Nat} {O cs : Nat → Prop} {ba room : Nat} {L : List ObjA} {m : List Int} {st : List (Int × Nat)} {x : Int} {k : Nat} {g cap : Nat} {wr : World} (h : WalkRep lo bm O cs ba room L m (st ++ [(x, k)]) (.slice (some ⟨g, 0, none⟩) (st.length + 1) cap) wr) (k' : Nat) :
    WalkRep lo bm O cs ba room L m (st ++ [(x, k')]) (.slice (some ⟨g, 0, none⟩) (st.length + 1) cap) (wr.setCell ⟨g, st.length * 2 + 1, none⟩ (.int .i64 (k' : Int))) ∧ Fr (Mine lo cs) wr (wr.setCell ⟨g, st.length * 2 + 1, none⟩ (.int .i64 (k' : Int))) := by
  have hr := h.row
  rw [List.length_append, List.length_singleton] at hr
  obtain ⟨hst, hgs⟩ := hr.stored (st.length * 2 + 1) (.int .i64 (k' : Int))
  have hlim := h.ar.lim
  have hgb := row_base h.row g rfl
  obtain ⟨hn1, hn2⟩ := h.nr g rfl
  have hz : (wr.setCell ⟨g, st.length * 2 + 1, none⟩ (.int .i64 (k' : Int))).heap.size = wr.heap.size := by simp [World.setCell]
  have block : ∀ k, k ≠ g → (wr.setCell ⟨g, st.length * 2 + 1, none⟩ (.int .i64 (k' : Int))).heap[k]? = wr.heap[k]? := fun k hk => Below.heap_setCell _ _ _ _ (fun e => hk e)
  refine ⟨⟨h.ar.same (by omega) fun k hk => block k (fun e => by have := (h.olo k hk).1; omega), (block bm (fun e => hn2 e.symm)).trans h.map, ?_, h.lob, by have := h.los; omega, h.olo, fun k hk => by have := h.csl k hk; omega, h.nb, h.nr⟩, ?_⟩
  · rw [List.length_append, List.length_singleton]
    have e : (encPs (st ++ [(x, k)])).set (st.length * 2 + 1) (.int .i64 (k' : Int)) = encPs (st ++ [(x, k')]) := by
      have hl := encPs_len st
      rw [encPs_snoc, encPs_snoc, List.set_append_right _ _ (by omega), hl]
      simp [encP]
    rw [← e]
    exact hst
  · exact fr_set (Fr.refl _ _) ⟨hgb, hn1⟩ _ _
/-- A word is met. -/
theorem WalkRep.meet {lo bm : Nat} {O cs : Nat → Prop} {ba room : Nat} {L : List ObjA} {m : List Int} {st : List (Int × Nat)} {v : Value} {x : Int} {wr w' : World} (h : WalkRep lo bm O cs ba room L m st v wr) (hm : w'.heap[bm]? = some (.map (entsM (m ++ [x])) (m ++ [x]).length)) (hg : wr.grownBy w' (some bm)) :
    WalkRep lo bm O cs ba room L (m ++ [x]) st v w' ∧ Fr (Mine lo cs) wr w' := by
  have hlim := h.ar.lim
  have block : ∀ k, k < wr.heap.size → k ≠ bm → w'.heap[k]? = wr.heap[k]? := fun k hk hne => hg.block k hk (fun e => hne (by injection e))
  refine ⟨⟨h.ar.same hg.size fun k hk => block k (hlim k hk).2 (fun e => by have := (h.olo k hk).1; have := h.lob; omega), hm, row_of_block h.row fun k hk => block k (row_lt h.row k hk) (h.nr k hk).2, h.lob, Nat.le_trans h.los hg.size, h.olo, fun k hk => Nat.lt_of_lt_of_le (h.csl k hk) hg.size, h.nb, h.nr⟩, ?_⟩
  exact Fr.of_grown hg fun k hk => by
    injection hk with hk
    subst hk
    exact ⟨h.lob, h.nb⟩
/-- Behind a round of another. -/
theorem WalkRep.kept {lo bm : Nat} {O cs cs' : Nat → Prop} {ba room : Nat} {L : List ObjA} {m : List Int} {st : List (Int × Nat)} {v : Value} {wr w' : World} (h : WalkRep lo bm O cs ba room L m st v wr) (hk : KpG cs cs' wr w') : WalkRep lo bm O cs' ba room L m st v w' := by
  have hlim := h.ar.lim
  have n' : ∀ k, k < wr.heap.size → ¬ cs k → ¬ cs' k := fun k hk' hc hc' => by
    rcases (hk.new k hc').1 with h1 | h1
    · exact hc h1
    · omega
  refine ⟨?_, hk.blk bm _ h.nb h.map rfl, ?_, h.lob, Nat.le_trans h.los hk.size, fun k ho => ⟨(h.olo k ho).1, n' k (hlim k ho).2 (h.olo k ho).2⟩, fun k hc => (hk.new k hc).2, n' bm h.mapLt h.nb, fun g hg => ⟨n' g (row_lt h.row g hg) (h.nr g hg).1, (h.nr g hg).2⟩⟩
  · obtain ⟨bm', vO, vW, vs, hR⟩ := h.ar
    exact ar_kept ⟨bm', vO, vW, vs, hR⟩ hk.size fun k o ho hoo hr => hk.blk k o (h.olo k ho).2 hoo hr
  · refine row_of_block h.row fun k hkk => ?_
    obtain ⟨o, ho, hc⟩ := row_obj h.row k hkk
    rw [ho]
    exact hk.blk k o (h.nr k hkk).1 ho hc
end Go.Proofs.YthgnihckeckaiaaDoor.Tm
