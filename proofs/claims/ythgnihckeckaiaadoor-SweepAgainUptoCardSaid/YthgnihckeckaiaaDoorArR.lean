/- arena.make of any cell; the worlds of Put. -/
import Derived.Test.YthgnihckeckaiaaDoorArK
import Derived.WalkSmall
namespace Go.Proofs.YthgnihckeckaiaaDoor.Tm
open Go.RowKit
set_option linter.unusedVariables false
set_option linter.unusedSimpArgs false

set_option maxHeartbeats 1000000 in
theorem make_any (w : World) (O : Nat → Prop) (ba room : Nat) (l : List ObjA) (c : CellD) (parts : List Int) (A : Option Addr) (cp : Nat) (h : ArAt w O ba room l) (hT : TabsA w) (hc : WfC c) (he : cellE c = 0)
    (hr : WReads w A parts) (hk : parts.length = kidsD c) (hp : ∀ p ∈ parts, FindOk l p) (hu : usedA l + costC c ≤ room) :
    Calls Tryd.prog 59 #[.pointer (some ⟨ba, 0, none⟩), .agg #[.int .i64 c.kind, .int .i64 c.n, .string c.text], .slice A parts.length cp] w fun e w' => e = .returned (.int .u64 (makeA l c parts).2) ∧ Made w w' O ba room (makeA l c parts).1 := by
  by_cases hs : SmallC c
  · have hB0 := below_one w (.cells #[.int .i64 c.kind, .int .i64 c.n, .string c.text] 40)
    by_cases h6 : c.kind = 6
    · have H := Lib.hid (show makeA l c parts = (l, 2) by unfold makeA; rw [if_pos h6])
      rw [h6]
      rw [h6] at hB0
      clear hs hc he hk hp hu hT
      go_enter Tryd.func59, Tryd.ntmps59
      go_wp2
      go_ret
      rw [H.out]
      exact ⟨rfl, Made.of_below h hB0⟩
    · have h1 : c.kind = 1 ∧ smallI c.n := by rcases hs with hs | hs; exact absurd hs h6; exact hs
      have H := Lib.hid (show makeA l c parts = (l, intW c.n) by unfold makeA; rw [if_neg h6, if_pos h1])
      have hof := fun w => wofint_any c.n w hc.n0 hc.n1
      simp only [if_pos h1.2] at hof
      obtain ⟨h1, _⟩ := h1
      rw [h1]
      rw [h1] at hB0
      clear hs hc he hk hp hu hT h6
      go_enter Tryd.func59, Tryd.ntmps59
      go_wp2_with fail
      refine (hof _).mono ?_
      rintro e w' ⟨rfl, rfl⟩
      go_wp2
      go_ret
      rw [H.out]
      exact ⟨rfl, Made.of_below h hB0⟩
  · rw [makeA_big hs]
    exact make_big w O ba room l c parts A cp h hT hc he hs hr hk ⟨hp⟩ hu
theorem wfc_of_kids {c : CellD} (he : cellE c = 0) (hk : 0 < kidsD c) : WfC c := by
  have ht := cellE_text he
  unfold kidsD at hk
  by_cases h7 : c.kind = 7
  · have hn : c.n = 0 := by
      unfold cellE at he
      repeat' split at he
      all_goals first | (exfalso; omega) | omega
    exact ⟨by omega, by omega, by omega⟩
  · rw [if_neg h7] at hk
    by_cases h5 : c.kind = 5 ∧ 0 ≤ c.n ∧ c.n ≤ 255
    · exact ⟨by omega, by omega, by omega⟩
    · rw [if_neg h5] at hk; omega

/-! the open cells in memory, the lowest first -/
def encOp (p : OpenA × Value) : List Value := [.int .i64 p.1.cell.kind, .int .i64 p.1.cell.n, .string p.1.cell.text, p.2, .int .i64 (p.1.want : Int)]
def encSt (st : List (OpenA × Value)) : List Value := st.flatMap encOp
theorem encSt_len (st : List (OpenA × Value)) : (encSt st).length = st.length * 5 := by
  unfold encSt
  induction st with
  | nil => rfl
  | cons a l ih => simp [encOp] at ih ⊢; omega
theorem encSt_snoc (st : List (OpenA × Value)) (p : OpenA × Value) : encSt (st ++ [p]) = encSt st ++ encOp p := by simp [encSt]
structure PutRep (w0 w : World) (O0 O : Nat → Prop) (ba room : Nat) (l : List ObjA) (st : List (OpenA × Value)) (vS : Value) : Prop where
  ar : ArAt w O ba room l
  o1 : ∀ k, O0 k → O k
  o2 : ∀ k, O k → O0 k ∨ w0.heap.size ≤ k
  fr : Fr O0 w0 w
  row : w.ownsRow w0.heap.size 106 5 vS st.length (encSt st)
  parts : ∀ p ∈ st, w.ownsRow w0.heap.size 27 1 p.2 p.1.parts.length (encW p.1.parts)
  sO : ∀ k, vS.ownBlock = some k → ¬ O k
  pO : ∀ p ∈ st, ∀ k, p.2.ownBlock = some k → ¬ O k ∧ vS.ownBlock ≠ some k
  nd : st.Pairwise fun p q => ∀ k, p.2.ownBlock = some k → q.2.ownBlock ≠ some k
theorem PutRep.start {w : World} {O : Nat → Prop} {ba room : Nat} {l : List ObjA} (h : ArAt w O ba room l) {w' : World} (hB : Below w.heap.size w w') : PutRep w w' O O ba room l [] (.slice none 0 0) :=
  ⟨h.below hB, fun _ h => h, fun _ h => .inl h, Fr.of_below hB, row_nil _ _ _ _, fun p hp => (by cases hp), fun k hk => by simp [Value.ownBlock] at hk, fun p hp => (by cases hp), List.Pairwise.nil⟩
theorem PutRep.below {w0 w w' : World} {O0 O : Nat → Prop} {ba room : Nat} {l : List ObjA} {st : List (OpenA × Value)} {vS : Value} (h : PutRep w0 w O0 O ba room l st vS) (hB : Below w.heap.size w w') : PutRep w0 w' O0 O ba room l st vS :=
  ⟨h.ar.below hB, h.o1, h.o2, fr_below h.fr hB, row_below h.row hB, fun p hp => row_below (h.parts p hp) hB, h.sO, h.pO, h.nd⟩
theorem PutRep.made {w0 w w' : World} {O0 O : Nat → Prop} {ba room : Nat} {l l' : List ObjA} {st : List (OpenA × Value)} {vS : Value} (h : PutRep w0 w O0 O ba room l st vS) (hM : Made w w' O ba room l') : ∃ O', PutRep w0 w' O0 O' ba room l' st vS := by
  obtain ⟨O', a1, a2, a3, a4⟩ := hM
  have hn : ∀ k, k < w.heap.size → ¬ O k → ¬ O' k := fun k hk ho ho' => by
    rcases a3 k ho' with h | h
    · exact ho h
    · omega
  have hs0 := h.fr.size
  have frame : Fr O0 w0 w' := h.fr.trans' a4 fun i hi ho => by
    rcases h.o2 i ho with h | h
    · exact h
    · omega
  refine ⟨O', a1, fun k hk => a2 k (h.o1 k hk), fun k hk => ?_, frame, row_fr h.row a4 h.sO, fun p hp => row_fr (h.parts p hp) a4 fun k hk => (h.pO p hp k hk).1, fun k hk => hn k (row_lt h.row k hk) (h.sO k hk),
    fun p hp k hk => ⟨hn k (row_lt (h.parts p hp) k hk) (h.pO p hp k hk).1, (h.pO p hp k hk).2⟩, h.nd⟩
  rcases a3 k hk with h' | h'
  · exact h.o2 k h'
  · exact .inr (by omega)
/-- A cell is opened. -/
theorem PutRep.push {w0 w wa w' : World} {O0 O : Nat → Prop} {ba room : Nat} {l : List ObjA} {st : List (OpenA × Value)} {vS : Value} (h : PutRep w0 w O0 O ba room l st vS) (hB : Below w.heap.size w wa) (hg : wa.grownBy w' vS.ownBlock)
    {o : OpenA} (ho : o.parts = []) {g cap : Nat} (hrow : w'.ownsRow w0.heap.size 106 5 (.slice (some ⟨g, 0, none⟩) (st.length + 1) cap) (st.length + 1) (encSt st ++ encOp (o, .slice none 0 0))) (hat : vS.ownBlock = some g ∨ wa.heap.size ≤ g) :
    PutRep w0 w' O0 O ba room l (st ++ [(o, .slice none 0 0)]) (.slice (some ⟨g, 0, none⟩) (st.length + 1) cap) := by
  have h := h.below hB
  have hOs : ∀ k, O k → vS.ownBlock ≠ some k := fun k hk e => h.sO k e hk
  have hlim := h.ar.lim
  have hs0 := h.fr.size
  have hnew : ∀ k, (Value.slice (some ⟨g, 0, none⟩) (st.length + 1) cap).ownBlock = some k → g = k := fun k hk => by simpa [Value.ownBlock] using hk
  refine ⟨h.ar.same hg.size fun k hk => hg.block k (hlim k hk).2 (fun e => hOs k hk e.symm), h.o1, h.o2, ?_, ?_, ?_, ?_, ?_, ?_⟩
  · refine ⟨hg.os.trans h.fr.os, hg.tape.trans h.fr.tape, hg.output.trans h.fr.output, Nat.le_trans hs0 hg.size, fun k hk hO => ?_⟩
    rw [hg.block k (by omega) (fun e => by have := (row_base h.row k e.symm); omega), h.fr.block k hk hO]
  · rw [List.length_append, List.length_singleton, encSt_snoc]
    exact hrow
  · intro p hp
    rcases List.mem_append.1 hp with hp | hp
    · refine (h.parts p hp).kept hg ?_
      cases hv : p.2.ownBlock with
      | none => exact .inl rfl
      | some k => exact .inr (fun e => (h.pO p hp k hv).2 e.symm)
    · rw [List.mem_singleton.1 hp]
      simp only [ho]
      exact row_nil _ _ _ _
  · intro k hk hO
    rw [← hnew k hk] at hO
    rcases hat with h' | h'
    · exact h.sO g h' hO
    · have := (hlim g hO).2; omega
  · intro p hp k hk
    rcases List.mem_append.1 hp with hp | hp
    · refine ⟨(h.pO p hp k hk).1, fun e => ?_⟩
      have e' := hnew k e
      subst e'
      rcases hat with h' | h'
      · exact (h.pO p hp g hk).2 h'
      · have := row_lt (h.parts p hp) g hk; omega
    · rw [List.mem_singleton.1 hp] at hk
      simp [Value.ownBlock] at hk
  · rw [List.pairwise_append]
    refine ⟨h.nd, by simp, fun p hp q hq k hk => ?_⟩
    rw [List.mem_singleton.1 hq]
    simp [Value.ownBlock]
theorem PutRep.last {w0 w : World} {O0 O : Nat → Prop} {ba room : Nat} {l : List ObjA} {st : List (OpenA × Value)} {p : OpenA × Value} {vS : Value} (h : PutRep w0 w O0 O ba room l (st ++ [p]) vS) :
    ∃ g cap, vS = .slice (some ⟨g, 0, none⟩) (st.length + 1) cap ∧ st.length + 1 ≤ cap ∧ w.cell? ⟨g, st.length * 5, none⟩ = some (.int .i64 p.1.cell.kind) ∧ w.cell? ⟨g, st.length * 5 + 1, none⟩ = some (.int .i64 p.1.cell.n) ∧ w.cell? ⟨g, st.length * 5 + 2, none⟩ = some (.string p.1.cell.text) ∧
      w.cell? ⟨g, st.length * 5 + 3, none⟩ = some p.2 ∧ w.cell? ⟨g, st.length * 5 + 4, none⟩ = some (.int .i64 (p.1.want : Int)) ∧ w.frozen? ⟨g, st.length * 5 + 3, none⟩ = false := by
  have hr := h.row
  rw [List.length_append, List.length_singleton, encSt_snoc] at hr
  rcases hr.2 with ⟨_, h0⟩ | ⟨g, cap, cur, rfl, _, _, hc, _⟩
  · omega
  · have hl := encSt_len st
    refine ⟨g, cap, rfl, hc, ?_, ?_, ?_, ?_, ?_, hr.frozenAt _⟩
    all_goals
      rw [hr.cellAt _ (by omega), List.getElem?_append_right (by omega), hl]
      simp [encOp]
/-- The highest takes a word. -/
theorem PutRep.take {w0 w wa w6 : World} {O0 O : Nat → Prop} {ba room : Nat} {l : List ObjA} {st : List (OpenA × Value)} {o : OpenA} {v : Value} {g cap : Nat} (h : PutRep w0 w O0 O ba room l (st ++ [(o, v)]) (.slice (some ⟨g, 0, none⟩) (st.length + 1) cap)) (hB : Below w.heap.size w wa)
    (hg : wa.grownBy w6 v.ownBlock) {x : Int} {g2 cap2 : Nat} (hrow : w6.ownsRow w0.heap.size 27 1 (.slice (some ⟨g2, 0, none⟩) (o.parts.length + 1) cap2) (o.parts.length + 1) (encW o.parts ++ [.int .u64 x])) (hat : v.ownBlock = some g2 ∨ wa.heap.size ≤ g2) :
    PutRep w0 (w6.setCell ⟨g, st.length * 5 + 3, none⟩ (.slice (some ⟨g2, 0, none⟩) (o.parts.length + 1) cap2)) O0 O ba room l (st ++ [(⟨o.cell, o.parts ++ [x], o.want⟩, .slice (some ⟨g2, 0, none⟩) (o.parts.length + 1) cap2)]) (.slice (some ⟨g, 0, none⟩) (st.length + 1) cap) := by
  have h := h.below hB
  have hm : (o, v) ∈ st ++ [(o, v)] := by simp
  have hlim := h.ar.lim
  have hs0 := h.fr.size
  have hv := fun k hk => h.pO _ hm k hk
  have hvS : (Value.slice (some ⟨g, 0, none⟩) (st.length + 1) cap).ownBlock = some g := rfl
  have hgO := h.sO g hvS
  have hgl := row_lt h.row g hvS
  have hgb := row_base h.row g hvS
  have hvg : v.ownBlock ≠ some g := fun e => (hv g e).2 rfl
  have hr6 := h.row.kept hg (.inr (fun e => hvg (e.symm.trans hvS)))
  rw [List.length_append, List.length_singleton] at hr6
  obtain ⟨hst, hgs⟩ := hr6.stored (st.length * 5 + 3) (.slice (some ⟨g2, 0, none⟩) (o.parts.length + 1) cap2)
  have hg2g : g2 ≠ g := fun e => by
    rcases hat with h' | h'
    · exact hvg (h'.trans (by rw [e]))
    · omega
  have hl := encSt_len st
  obtain ⟨hnd1, _, hnd2⟩ := List.pairwise_append.1 h.nd
  have block : ∀ k, k < wa.heap.size → v.ownBlock ≠ some k → k ≠ g → (w6.setCell ⟨g, st.length * 5 + 3, none⟩ (.slice (some ⟨g2, 0, none⟩) (o.parts.length + 1) cap2)).heap[k]? = wa.heap[k]? := fun k hk h1 h2 => by
    rw [Below.heap_setCell _ _ _ _ (fun e => h2 e), hg.block k hk (fun e => h1 e.symm)]
  refine ⟨h.ar.same (Nat.le_trans hg.size hgs.size) fun k hk => block k (hlim k hk).2 (fun e => (hv k e).1 hk) (fun e => hgO (e ▸ hk)), h.o1, h.o2, ?_, ?_, ?_, h.sO, ?_, ?_⟩
  · refine ⟨hgs.os.trans (hg.os.trans h.fr.os), hgs.tape.trans (hg.tape.trans h.fr.tape), hgs.output.trans (hg.output.trans h.fr.output), Nat.le_trans hs0 (Nat.le_trans hg.size hgs.size), fun k hk hO => ?_⟩
    rw [block k (by omega) (fun e => by have := row_base (h.parts _ hm) k e; omega) (by omega), h.fr.block k hk hO]
  · rw [List.length_append, List.length_singleton]
    have e : (encSt (st ++ [(o, v)])).set (st.length * 5 + 3) (.slice (some ⟨g2, 0, none⟩) (o.parts.length + 1) cap2) = encSt (st ++ [(⟨o.cell, o.parts ++ [x], o.want⟩, .slice (some ⟨g2, 0, none⟩) (o.parts.length + 1) cap2)]) := by
      rw [encSt_snoc, encSt_snoc, List.set_append_right _ _ (by omega), hl]
      simp [encOp]
    rw [← e]
    exact hst
  · intro p hp
    rcases List.mem_append.1 hp with hp | hp
    · have hp' : p ∈ st ++ [(o, v)] := by simp [hp]
      refine row_of_block (h.parts p hp') fun k hk => block k (row_lt (h.parts p hp') k hk) (fun e => hnd2 p hp (o, v) (by simp) k hk e) (fun e => (h.pO p hp' k hk).2 (by rw [e]; rfl))
    · rw [List.mem_singleton.1 hp]
      simp only [List.length_append, List.length_singleton]
      have e : encW (o.parts ++ [x]) = encW o.parts ++ [.int .u64 x] := by simp [encW]
      rw [e]
      exact row_other hrow (fun e => hg2g (by simpa [Value.ownBlock] using e)) _ _
  · intro p hp k hk
    rcases List.mem_append.1 hp with hp | hp
    · exact h.pO p (by simp [hp]) k hk
    · rw [List.mem_singleton.1 hp] at hk
      have e : g2 = k := by simpa [Value.ownBlock] using hk
      subst e
      refine ⟨fun hO => ?_, fun e => hg2g (by simpa [Value.ownBlock] using e.symm)⟩
      rcases hat with h' | h'
      · exact (hv g2 h').1 hO
      · have := (hlim g2 hO).2; omega
  · rw [List.pairwise_append]
    refine ⟨hnd1, by simp, fun p hp q hq k hk => ?_⟩
    rw [List.mem_singleton.1 hq]
    intro e
    have e' : g2 = k := by simpa [Value.ownBlock] using e
    subst e'
    rcases hat with h' | h'
    · exact hnd2 p hp (o, v) (by simp) g2 hk h'
    · have := row_lt (h.parts p (by simp [hp])) g2 hk; omega
/-- The highest goes. -/
theorem PutRep.pop {w0 w : World} {O0 O : Nat → Prop} {ba room : Nat} {l : List ObjA} {st : List (OpenA × Value)} {p : OpenA × Value} {g cap : Nat} (h : PutRep w0 w O0 O ba room l (st ++ [p]) (.slice (some ⟨g, 0, none⟩) (st.length + 1) cap)) :
    PutRep w0 w O0 O ba room l st (.slice (some ⟨g, 0, none⟩) st.length cap) := by
  have hr := h.row
  rw [List.length_append, List.length_singleton, encSt_snoc] at hr
  exact ⟨h.ar, h.o1, h.o2, h.fr, ownsRow_pop (encSt_len st) hr, fun q hq => h.parts q (by simp [hq]), h.sO, fun q hq => h.pO q (by simp [hq]), (List.pairwise_append.1 h.nd).1⟩
theorem PutRep.end_ {w0 w : World} {O0 O : Nat → Prop} {ba room : Nat} {l : List ObjA} {st : List (OpenA × Value)} {vS : Value} (h : PutRep w0 w O0 O ba room l st vS) : Made w0 w O0 ba room l := ⟨O, h.ar, h.o1, h.o2, h.fr⟩
end Go.Proofs.YthgnihckeckaiaaDoor.Tm
