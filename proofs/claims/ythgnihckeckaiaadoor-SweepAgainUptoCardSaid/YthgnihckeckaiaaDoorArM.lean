/- The arena in memory. -/
import Derived.Test.YthgnihckeckaiaaDoorArW
import Derived.MapKept
namespace Go.Proofs.YthgnihckeckaiaaDoor.Tm
open Go.RowKit
set_option linter.unusedVariables false
set_option linter.unusedSimpArgs false

/-! frames -/
/-- Nothing is written of what was there, but in blocks of O. -/
structure Fr (O : Nat → Prop) (w w' : World) : Prop where
  os : w'.os = w.os
  tape : w'.tape = w.tape
  output : w'.output = w.output
  size : w.heap.size ≤ w'.heap.size
  block : ∀ k, k < w.heap.size → ¬ O k → w'.heap[k]? = w.heap[k]?
theorem Fr.refl (O : Nat → Prop) (w : World) : Fr O w w := ⟨rfl, rfl, rfl, Nat.le_refl _, fun _ _ _ => rfl⟩
theorem Fr.trans {O : Nat → Prop} {a b c : World} (h : Fr O a b) (k : Fr O b c) : Fr O a c :=
  ⟨k.os.trans h.os, k.tape.trans h.tape, k.output.trans h.output, Nat.le_trans h.size k.size, fun i hi ho => (k.block i (Nat.lt_of_lt_of_le hi h.size) ho).trans (h.block i hi ho)⟩
theorem Fr.trans' {O O' : Nat → Prop} {a b c : World} (h : Fr O a b) (k : Fr O' b c) (hO : ∀ i, i < a.heap.size → O' i → O i) : Fr O a c :=
  ⟨k.os.trans h.os, k.tape.trans h.tape, k.output.trans h.output, Nat.le_trans h.size k.size, fun i hi ho => (k.block i (Nat.lt_of_lt_of_le hi h.size) (fun e => ho (hO i hi e))).trans (h.block i hi ho)⟩
theorem Fr.of_below {O : Nat → Prop} {a b : World} (h : Below a.heap.size a b) : Fr O a b := ⟨h.os, h.tape, h.output, h.size, fun i hi _ => h.block i hi⟩
theorem Fr.of_grown {O : Nat → Prop} {a b : World} {row : Option Nat} (h : a.grownBy b row) (hr : ∀ k, row = some k → O k) : Fr O a b :=
  ⟨h.os, h.tape, h.output, h.size, fun i hi ho => h.block i hi (fun e => ho (hr i e.symm))⟩
theorem Fr.mono {O O' : Nat → Prop} {a b : World} (h : Fr O a b) (hO : ∀ i, i < a.heap.size → O i → O' i) : Fr O' a b := ⟨h.os, h.tape, h.output, h.size, fun i hi ho => h.block i hi (fun e => ho (hO i hi e))⟩
theorem Fr.below {O : Nat → Prop} {a b : World} {s : Nat} (h : Fr O a b) (hs : s ≤ a.heap.size) (hO : ∀ k, O k → s ≤ k) : Below s a b :=
  ⟨h.os, h.tape, h.output, h.size, fun k hk => h.block k (by omega) (fun e => by have := hO k e; omega)⟩
theorem Fr.cell {O : Nat → Prop} {a b : World} (h : Fr O a b) {ad : Addr} {v : Value} (hc : a.cell? ad = some v) (hn : ¬ O ad.block) : b.cell? ad = some v :=
  (cell_of_same (h.block _ (cell_lt hc) hn)).trans hc
theorem Reads.fr {O : Nat → Prop} {a b : World} {A : Option Addr} {l : List CellD} (h : Reads a A l) (hf : Fr O a b) (hn : ∀ g o, A = some ⟨g, o, none⟩ → ¬ O g) : Reads b A l := fun j hj => by
  obtain ⟨g, o, e, hc⟩ := h j hj
  have n := hn g o e
  exact ⟨g, o, e, hf.cell hc.1 n, hf.cell hc.2.1 n, hf.cell hc.2.2 n⟩
theorem row_of_block {a b : World} {base n : Nat} {e : TypeId} {size : Nat} {v : Value} {xs : List Value} (h : a.ownsRow base e size v n xs) (hn : ∀ k, v.ownBlock = some k → b.heap[k]? = a.heap[k]?) : b.ownsRow base e size v n xs := by
  refine ⟨h.1, ?_⟩
  rcases h.2 with hn' | ⟨g, cap, cur, rfl, hb, hgg, rest⟩
  · exact .inl hn'
  · exact .inr ⟨g, cap, cur, rfl, hb, (hn g rfl).trans hgg, rest⟩
theorem row_fr {O : Nat → Prop} {a b : World} {base n : Nat} {e : TypeId} {size : Nat} {v : Value} {xs : List Value} (h : a.ownsRow base e size v n xs) (hf : Fr O a b) (hn : ∀ k, v.ownBlock = some k → ¬ O k) : b.ownsRow base e size v n xs :=
  row_of_block h fun k hk => hf.block k (row_lt h k hk) (hn k hk)

/-! words in memory -/
def WReads (w : World) (A : Option Addr) (l : List Int) : Prop := ∀ j (h : j < l.length), ∃ b o, A = some ⟨b, o, none⟩ ∧ w.cell? ⟨b, o + j, none⟩ = some (.int .u64 l[j])
def encW (l : List Int) : List Value := l.map fun x => Value.int .u64 x
theorem encW_len (l : List Int) : (encW l).length = l.length * 1 := by simp [encW]
theorem WReads.below {w W : World} {A : Option Addr} {l : List Int} (h : WReads w A l) (hB : Below w.heap.size w W) : WReads W A l := fun j hj => by
  obtain ⟨b, o, e, hc⟩ := h j hj
  exact ⟨b, o, e, cell_below hB hc⟩
theorem WReads.fr {O : Nat → Prop} {a b : World} {A : Option Addr} {l : List Int} (h : WReads a A l) (hf : Fr O a b) (hn : ∀ g o, A = some ⟨g, o, none⟩ → ¬ O g) : WReads b A l := fun j hj => by
  obtain ⟨g, o, e, hc⟩ := h j hj
  exact ⟨g, o, e, hf.cell hc (hn g o e)⟩
theorem WReads.same {a b : World} {A : Option Addr} {l : List Int} (h : WReads a A l) (hn : ∀ g o, A = some ⟨g, o, none⟩ → b.heap[g]? = a.heap[g]?) : WReads b A l := fun j hj => by
  obtain ⟨g, o, e, hc⟩ := h j hj
  exact ⟨g, o, e, (cell_of_same (a := ⟨g, _, none⟩) (hn g o e)).trans hc⟩
theorem WReads.nil (w : World) (A : Option Addr) : WReads w A [] := fun j hj => absurd hj (Nat.not_lt_zero j)
theorem WReads.take {w : World} {A : Option Addr} {l : List Int} (h : WReads w A l) (m : Nat) : WReads w A (l.take m) := fun j hj => by
  obtain ⟨b, o, e, hc⟩ := h j (by simp at hj; omega)
  exact ⟨b, o, e, by rw [List.getElem_take]; exact hc⟩
theorem WReads.of_row {w : World} {base cap : Nat} {A : Option Addr} {e : TypeId} {l : List Int} (h : w.ownsRow base e 1 (.slice A l.length cap) l.length (encW l)) : WReads w A l := by
  intro j hj
  rcases h.2 with ⟨h', h0⟩ | ⟨g, cap', cur, h', _⟩
  · omega
  · obtain ⟨rfl, rfl⟩ : A = some ⟨g, 0, none⟩ ∧ cap = cap' := by simpa using h'
    refine ⟨g, 0, rfl, ?_⟩
    rw [Nat.zero_add, h.cellAt _ (by omega)]
    simp [encW, hj]
theorem Src.of_wreads {w : World} {A : Option Addr} {l : List Int} (h : WReads w A l) : Src w 1 A l.length (encW l) := by
  refine ⟨encW_len l, fun e => ?_, fun ad e j u hj => ?_, fun u hu => ?_⟩
  · rcases Nat.eq_zero_or_pos l.length with h0 | h0
    · exact h0
    · obtain ⟨b, o, e', _⟩ := h 0 h0
      rw [e] at e'; cases e'
  · have hlt := (List.getElem?_eq_some_iff.1 hj).1
    rw [encW_len] at hlt
    obtain ⟨b, o, e', hc⟩ := h j (by omega)
    rw [e] at e'
    cases e'
    have e3 : ((⟨b, o, none⟩ : Addr).add j) = ⟨b, o + j, none⟩ := by unfold Addr.add; split <;> simp_all
    rw [e3, hc, ← hj]
    have : j < l.length := by omega
    simp [encW, this]
  · obtain ⟨x, _, rfl⟩ := List.mem_map.1 hu
    rfl
theorem Src.of_word {w : World} {b o : Nat} {x : Int} (h : w.cell? ⟨b, o, none⟩ = some (.int .u64 x)) : Src w 1 (some ⟨b, o, none⟩) 1 (encW [x]) :=
  Src.of_wreads (l := [x]) fun j hj => by
    have : j = 0 := by simpa using hj
    subst this
    exact ⟨b, o, rfl, by simpa using h⟩

/-! the arena's map: a place leads to the object's number -/
def entsL : Nat → Nat → List ObjA → List MapEntry
  | _, _, [] => []
  | p, i, o :: l => ⟨.int .i64 p, .int .i64 i, i⟩ :: entsL (p + costC o.cell) (i + 1) l
def entsA (l : List ObjA) : Array MapEntry := (entsL 0 0 l).toArray
theorem entsL_snoc : ∀ (p i : Nat) (l : List ObjA) (o : ObjA), entsL p i (l ++ [o]) = entsL p i l ++ [⟨.int .i64 ((p + usedA l : Nat) : Int), .int .i64 ((i + l.length : Nat) : Int), i + l.length⟩]
  | p, i, [], o => by simp [entsL, usedA]
  | p, i, a :: l, o => by
    rw [List.cons_append, entsL, entsL_snoc, entsL, List.cons_append, usedA_cons]
    rw [show p + costC a.cell + usedA l = p + (costC a.cell + usedA l) by omega, show i + 1 + l.length = i + (a :: l).length by simp; omega]
theorem findNow_ents (a : Int) : ∀ (l : List ObjA) (p i n : Nat), Instr.findNow (.int .i64) (.int .i64 a) (entsL p i l) n = some ((idxOf p l a).map fun k => (n + k, .int .i64 ((i + k : Nat) : Int)))
  | [], _, _, _ => rfl
  | o :: l, p, i, n => by
    rw [entsL, idxOf]
    unfold Instr.findNow
    by_cases h : a = (p : Int)
    · subst h
      simp [Instr.sameNow]
    · have e : (a == (p : Int)) = false := beq_eq_false_iff_ne.2 h
      simp only [Instr.sameNow, if_true, e, if_neg h]
      rw [findNow_ents]
      cases idxOf (p + costC o.cell) l a with
      | none => rfl
      | some k => simp; omega
theorem run_look (w : World) (bm : Nat) (l : List ObjA) (a : Int) (hm : w.heap[bm]? = some (.map (entsA l) l.length)) :
    (Instr.lookup 97 (.map (some bm)) (.int .i64 a) true).run Tryd.prog w = .ok (.tuple #[.int .i64 (((idxOf 0 l a).getD 0 : Nat) : Int), .bool (idxOf 0 l a).isSome]) w := by
  have hz : (zeroValue 3).run Tryd.prog w = .ok (.int .i64 0) w := by kernel_rfl
  have hf := MapKept.run_findKey (P := Tryd.prog) (w := w) (kt := 3) (k := .int .i64 a) (l := (entsA l).toList) Tryd.underlying3 (show Instr.findNow (.int .i64) (.int .i64 a) (entsL 0 0 l) 0 = _ from findNow_ents a l 0 0 0)
  have hc := MapKept.run_checkKey (P := Tryd.prog) (w := w) (kt := 3) (k := .int .i64 a) Tryd.underlying3 rfl (entsA l).isEmpty 9999
  cases e : idxOf 0 l a with
  | none =>
    rw [e] at hf
    simp [Instr.lookup, run_underlying Tryd.underlying97, MapKept.run_getObj_map hm, hc, hf, hz, Result.andThen]
  | some k =>
    rw [e] at hf
    simp [Instr.lookup, run_underlying Tryd.underlying97, MapKept.run_getObj_map hm, hc, hf, Result.andThen]
theorem run_put (w : World) (bm : Nat) (l : List ObjA) (o : ObjA) (hm : w.heap[bm]? = some (.map (entsA l) l.length)) (hn : idxOf 0 l (usedA l : Int) = none) :
    ∃ w', (Instr.mapUpdate 97 (.map (some bm)) (.int .i64 (usedA l : Int)) (.int .i64 (l.length : Int))).run Tryd.prog w = .ok () w' ∧ w'.heap[bm]? = some (.map (entsA (l ++ [o])) (l ++ [o]).length) ∧ w.grownBy w' (some bm) := by
  have hf := MapKept.run_findKey (P := Tryd.prog) (w := w) (kt := 3) (k := .int .i64 (usedA l : Int)) (l := (entsA l).toList) Tryd.underlying3 (show Instr.findNow (.int .i64) (.int .i64 (usedA l : Int)) (entsL 0 0 l) 0 = _ from findNow_ents _ l 0 0 0)
  rw [hn] at hf
  have hc := MapKept.run_checkKey (P := Tryd.prog) (w := w) (kt := 3) (k := .int .i64 (usedA l : Int)) Tryd.underlying3 rfl false 9999
  have hs := MapKept.run_setObj_map (P := Tryd.prog) (w := w) (.map ((entsA l).push ⟨.int .i64 (usedA l : Int), .int .i64 (l.length : Int), l.length⟩) (l.length + 1)) hm
  refine ⟨{ w with heap := w.heap.setIfInBounds bm (.map ((entsA l).push ⟨.int .i64 (usedA l : Int), .int .i64 (l.length : Int), l.length⟩) (l.length + 1)) }, ?_, ?_, ?_⟩
  rotate_left
  · have e : entsA (l ++ [o]) = (entsA l).push ⟨.int .i64 (usedA l : Int), .int .i64 (l.length : Int), l.length⟩ := by
      unfold entsA
      rw [entsL_snoc]
      simp
    rw [e, List.length_append, List.length_singleton]
    exact (MapKept.heap_set hm).1
  · exact ⟨rfl, rfl, rfl, by simp, fun i _ hi => (MapKept.heap_set hm).2 i (fun e => hi (by rw [e]))⟩
  · simp [Instr.mapUpdate, run_underlying Tryd.underlying97, MapKept.run_getObj_map hm, hc, hf, hs, Result.andThen]

/-! the arena -/
def oVals (o : ObjA) (v : Value) : List Value := [.int .i64 o.cell.kind, .int .i64 o.cell.n, .string o.cell.text, v, .int .i64 (o.size : Int)]
def encOs : List ObjA → List Value → List Value
  | o :: l, v :: vs => oVals o v ++ encOs l vs
  | _, _ => []
theorem encOs_snoc (o : ObjA) (v : Value) : ∀ (l : List ObjA) (vs : List Value), vs.length = l.length → encOs (l ++ [o]) (vs ++ [v]) = encOs l vs ++ oVals o v
  | [], [], _ => by simp [encOs]
  | a :: l, b :: vs, h => by
    rw [List.cons_append, List.cons_append, encOs, encOs_snoc o v l vs (by simpa using h), encOs, List.append_assoc]
  | [], _ :: _, h => by simp at h
  | _ :: _, [], h => by simp at h
theorem encOs_at : ∀ (l : List ObjA) (vs : List Value) (h : vs.length = l.length) (j : Nat) (hj : j < l.length), (encOs l vs)[j * 5]? = some (.int .i64 (l[j]).cell.kind) ∧ (encOs l vs)[j * 5 + 1]? = some (.int .i64 (l[j]).cell.n) ∧
    (encOs l vs)[j * 5 + 2]? = some (.string (l[j]).cell.text) ∧ (encOs l vs)[j * 5 + 3]? = vs[j]? ∧ (encOs l vs)[j * 5 + 4]? = some (.int .i64 ((l[j]).size : Int))
  | [], _, _, j, hj => absurd hj (Nat.not_lt_zero j)
  | _ :: _, [], h, _, _ => by simp at h
  | a :: l, v :: vs, h, j, hj => by
    have e : encOs (a :: l) (v :: vs) = .int .i64 a.cell.kind :: .int .i64 a.cell.n :: .string a.cell.text :: v :: .int .i64 (a.size : Int) :: encOs l vs := rfl
    rw [e]
    cases j with
    | zero => exact ⟨rfl, rfl, rfl, rfl, rfl⟩
    | succ j =>
      have := encOs_at l vs (by simpa using h) j (by simpa using hj)
      have e5 : (j + 1) * 5 = j * 5 + 1 + 1 + 1 + 1 + 1 := by omega
      rw [e5]
      simpa using this
/-- A slice of words that an object holds: apart from what is written. -/
def PartV (w : World) (O no : Nat → Prop) (v : Value) (parts : List Int) : Prop :=
  ∃ A c, v = .slice A parts.length c ∧ parts.length ≤ c ∧ WReads w A parts ∧ ∀ b o, A = some ⟨b, o, none⟩ → O b ∧ ¬ no b
structure ArRep (w : World) (O : Nat → Prop) (ba room : Nat) (l : List ObjA) (bm : Nat) (vO vW : Value) (vs : List Value) : Prop where
  blk : w.heap[ba]? = some (.cells #[.int .i64 (room : Int), .int .i64 (usedA l : Int), .map (some bm), vO, vW] 100 (0, 0))
  map : w.heap[bm]? = some (.map (entsA l) l.length)
  ro : w.ownsRow 3 160 5 vO l.length (encOs l vs)
  rw : w.ownsRow 3 27 1 vW l.length (encW (wordsA 0 l))
  vl : vs.length = l.length
  ps : ∀ i (h : i < l.length) (h' : i < vs.length), PartV w O (fun k => k = ba ∨ vO.ownBlock = some k ∨ vW.ownBlock = some k) vs[i] l[i].parts
  oba : O ba
  obm : O bm
  oO : ∀ k, vO.ownBlock = some k → O k ∧ k ≠ ba ∧ vW.ownBlock ≠ some k
  oW : ∀ k, vW.ownBlock = some k → O k ∧ k ≠ ba
  lim : ∀ k, O k → 3 ≤ k ∧ k < w.heap.size
  wf : WfA l
  room_le : room ≤ 262144
  used_le : usedA l ≤ room
def ArAt (w : World) (O : Nat → Prop) (ba room : Nat) (l : List ObjA) : Prop := ∃ bm vO vW vs, ArRep w O ba room l bm vO vW vs
theorem ArRep.same {a b : World} {O : Nat → Prop} {ba room : Nat} {l : List ObjA} {bm : Nat} {vO vW : Value} {vs : List Value} (h : ArRep a O ba room l bm vO vW vs) (hs : a.heap.size ≤ b.heap.size) (hb : ∀ k, O k → b.heap[k]? = a.heap[k]?) :
    ArRep b O ba room l bm vO vW vs :=
  ⟨(hb _ h.oba).trans h.blk, (hb _ h.obm).trans h.map, row_of_block h.ro fun k hk => hb k (h.oO k hk).1, row_of_block h.rw fun k hk => hb k (h.oW k hk).1, h.vl,
    fun i h1 h2 => by
      obtain ⟨A, c, e1, e2, e3, e4⟩ := h.ps i h1 h2
      exact ⟨A, c, e1, e2, e3.same fun g o e => hb g (e4 g o e).1, e4⟩,
    h.oba, h.obm, h.oO, h.oW, fun k hk => ⟨(h.lim k hk).1, by have := (h.lim k hk).2; omega⟩, h.wf, h.room_le, h.used_le⟩
theorem ArAt.same {a b : World} {O : Nat → Prop} {ba room : Nat} {l : List ObjA} (h : ArAt a O ba room l) (hs : a.heap.size ≤ b.heap.size) (hb : ∀ k, O k → b.heap[k]? = a.heap[k]?) : ArAt b O ba room l := by
  obtain ⟨bm, vO, vW, vs, h⟩ := h
  exact ⟨bm, vO, vW, vs, h.same hs hb⟩
theorem ArAt.below {a b : World} {O : Nat → Prop} {ba room : Nat} {l : List ObjA} (h : ArAt a O ba room l) (hB : Below a.heap.size a b) : ArAt b O ba room l :=
  h.same hB.size fun k hk => hB.block k (by obtain ⟨_, _, _, _, h⟩ := h; exact (h.lim k hk).2)
theorem ArAt.fr {a b : World} {O O' : Nat → Prop} {ba room : Nat} {l : List ObjA} (h : ArAt a O ba room l) (hf : Fr O' a b) (hd : ∀ k, O k → ¬ O' k) : ArAt b O ba room l :=
  h.same hf.size fun k hk => hf.block k (by obtain ⟨_, _, _, _, h⟩ := h; exact (h.lim k hk).2) (hd k hk)
theorem ArAt.lim {w : World} {O : Nat → Prop} {ba room : Nat} {l : List ObjA} (h : ArAt w O ba room l) : ∀ k, O k → 3 ≤ k ∧ k < w.heap.size := by
  obtain ⟨_, _, _, _, h⟩ := h
  exact h.lim
theorem ArAt.wf {w : World} {O : Nat → Prop} {ba room : Nat} {l : List ObjA} (h : ArAt w O ba room l) : WfA l := by
  obtain ⟨_, _, _, _, h⟩ := h
  exact h.wf
theorem ArAt.lims {w : World} {O : Nat → Prop} {ba room : Nat} {l : List ObjA} (h : ArAt w O ba room l) : room ≤ 262144 ∧ usedA l ≤ room := by
  obtain ⟨_, _, _, _, h⟩ := h
  exact ⟨h.room_le, h.used_le⟩
/-- The receiver's cells. -/
theorem ArRep.cells {w : World} {O : Nat → Prop} {ba room : Nat} {l : List ObjA} {bm : Nat} {vO vW : Value} {vs : List Value} (h : ArRep w O ba room l bm vO vW vs) :
    w.cell? ⟨ba, 0, none⟩ = some (.int .i64 (room : Int)) ∧ w.cell? ⟨ba, 1, none⟩ = some (.int .i64 (usedA l : Int)) ∧ w.cell? ⟨ba, 2, none⟩ = some (.map (some bm)) ∧ w.cell? ⟨ba, 3, none⟩ = some vO ∧ w.cell? ⟨ba, 4, none⟩ = some vW := by
  refine ⟨?_, ?_, ?_, ?_, ?_⟩ <;> simp [World.cell?, h.blk]
/-- An object's cells. -/
theorem ArRep.objs {w : World} {O : Nat → Prop} {ba room : Nat} {l : List ObjA} {bm : Nat} {vO vW : Value} {vs : List Value} (h : ArRep w O ba room l bm vO vW vs) (k : Nat) (hk : k < l.length) :
    ∃ g cap, vO = .slice (some ⟨g, 0, none⟩) l.length cap ∧ w.cell? ⟨g, k * 5, none⟩ = some (.int .i64 (l[k]).cell.kind) ∧ w.cell? ⟨g, k * 5 + 1, none⟩ = some (.int .i64 (l[k]).cell.n) ∧ w.cell? ⟨g, k * 5 + 2, none⟩ = some (.string (l[k]).cell.text) ∧
      w.cell? ⟨g, k * 5 + 3, none⟩ = vs[k]? ∧ w.cell? ⟨g, k * 5 + 4, none⟩ = some (.int .i64 ((l[k]).size : Int)) := by
  rcases h.ro.2 with ⟨_, h0⟩ | ⟨g, cap, cur, e, _⟩
  · omega
  · obtain ⟨e0, e1, e2, e3, e4⟩ := encOs_at l vs h.vl k hk
    have hro := h.ro
    rw [e] at hro
    refine ⟨g, cap, e, ?_, ?_, ?_, ?_, ?_⟩
    · rw [hro.cellAt _ (by omega)]; exact e0
    · rw [hro.cellAt _ (by omega)]; exact e1
    · rw [hro.cellAt _ (by omega)]; exact e2
    · rw [hro.cellAt _ (by omega)]; exact e3
    · rw [hro.cellAt _ (by omega)]; exact e4
theorem ArRep.word {w : World} {O : Nat → Prop} {ba room : Nat} {l : List ObjA} {bm : Nat} {vO vW : Value} {vs : List Value} (h : ArRep w O ba room l bm vO vW vs) (k : Nat) (hk : k < l.length) :
    ∃ g cap x, vW = .slice (some ⟨g, 0, none⟩) l.length cap ∧ (wordsA 0 l)[k]? = some x ∧ w.cell? ⟨g, k, none⟩ = some (.int .u64 x) := by
  rcases h.rw.2 with ⟨_, h0⟩ | ⟨g, cap, cur, e, _⟩
  · omega
  · have hrw := h.rw
    rw [e] at hrw
    have hk' : k < (wordsA 0 l).length := by rw [wordsA_len]; exact hk
    refine ⟨g, cap, (wordsA 0 l)[k], e, by simp [hk'], ?_⟩
    rw [hrw.cellAt _ (by omega)]
    simp [encW, hk']
end Go.Proofs.YthgnihckeckaiaaDoor.Tm
