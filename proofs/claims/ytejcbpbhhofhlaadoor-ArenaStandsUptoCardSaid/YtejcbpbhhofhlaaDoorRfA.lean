/- Layer 3's reference: its arena in memory; Cost, small, Total, Used. -/
import Derived.Test.YtejcbpbhhofhlaaDoorArR
import Derived.Test.YtejcbpbhhofhlaaDoorArV
namespace Go.Proofs.YtejcbpbhhofhlaaDoor.Tm
open Go.RowKit
set_option linter.unusedVariables false
set_option linter.unusedSimpArgs false

structure ValR where
  obj : Int
  cell : CellD
structure ObjR where
  cell : CellD
  parts : List ValR
def encV (v : ValR) : List Value := [.int .i64 v.obj, .int .i64 v.cell.kind, .int .i64 v.cell.n, .string v.cell.text]
def encVs (l : List ValR) : List Value := l.flatMap encV
theorem encVs_len (l : List ValR) : (encVs l).length = l.length * 4 := by
  unfold encVs
  induction l with
  | nil => rfl
  | cons a l ih => simp [encV] at ih ⊢; omega
theorem encVs_snoc (l : List ValR) (v : ValR) : encVs (l ++ [v]) = encVs l ++ encV v := by simp [encVs]
theorem encVs_at : ∀ (l : List ValR) (j : Nat) (h : j < l.length), (encVs l)[j * 4]? = some (.int .i64 (l[j]).obj) ∧ (encVs l)[j * 4 + 1]? = some (.int .i64 (l[j]).cell.kind) ∧ (encVs l)[j * 4 + 2]? = some (.int .i64 (l[j]).cell.n) ∧ (encVs l)[j * 4 + 3]? = some (.string (l[j]).cell.text)
  | [], j, h => absurd h (Nat.not_lt_zero j)
  | a :: l, j, h => by
    have e : encVs (a :: l) = .int .i64 a.obj :: .int .i64 a.cell.kind :: .int .i64 a.cell.n :: .string a.cell.text :: encVs l := rfl
    rw [e]
    cases j with
    | zero => exact ⟨rfl, rfl, rfl, rfl⟩
    | succ j =>
      have := encVs_at l j (by simpa using h)
      have e4 : (j + 1) * 4 = j * 4 + 1 + 1 + 1 + 1 := by omega
      rw [e4]
      simpa using this
def VReads (w : World) (A : Option Addr) (l : List ValR) : Prop := ∀ j (h : j < l.length), ∃ b o, A = some ⟨b, o, none⟩ ∧ w.cell? ⟨b, o + j * 4, none⟩ = some (.int .i64 (l[j]).obj) ∧ w.cell? ⟨b, o + j * 4 + 1, none⟩ = some (.int .i64 (l[j]).cell.kind) ∧ w.cell? ⟨b, o + j * 4 + 2, none⟩ = some (.int .i64 (l[j]).cell.n) ∧ w.cell? ⟨b, o + j * 4 + 3, none⟩ = some (.string (l[j]).cell.text)
theorem VReads.nil (w : World) (A : Option Addr) : VReads w A [] := fun j hj => absurd hj (Nat.not_lt_zero j)
theorem VReads.same {a b : World} {A : Option Addr} {l : List ValR} (h : VReads a A l) (hn : ∀ g o, A = some ⟨g, o, none⟩ → b.heap[g]? = a.heap[g]?) : VReads b A l := fun j hj => by
  obtain ⟨g, o, e, h0, h1, h2, h3⟩ := h j hj
  have k := hn g o e
  exact ⟨g, o, e, (cell_of_same (a := ⟨g, _, none⟩) k).trans h0, (cell_of_same (a := ⟨g, _, none⟩) k).trans h1, (cell_of_same (a := ⟨g, _, none⟩) k).trans h2, (cell_of_same (a := ⟨g, _, none⟩) k).trans h3⟩
theorem VReads.below {w W : World} {A : Option Addr} {l : List ValR} (h : VReads w A l) (hB : Below w.heap.size w W) : VReads W A l := fun j hj => by
  obtain ⟨b, o, e, h0, h1, h2, h3⟩ := h j hj
  exact ⟨b, o, e, cell_below hB h0, cell_below hB h1, cell_below hB h2, cell_below hB h3⟩
theorem VReads.of_row {w : World} {base cap : Nat} {A : Option Addr} {e : TypeId} {l : List ValR} (h : w.ownsRow base e 4 (.slice A l.length cap) l.length (encVs l)) : VReads w A l := by
  intro j hj
  rcases h.2 with ⟨h', h0⟩ | ⟨g, cap', cur, h', _⟩
  · omega
  · obtain ⟨rfl, rfl⟩ : A = some ⟨g, 0, none⟩ ∧ cap = cap' := by simpa using h'
    obtain ⟨e0, e1, e2, e3⟩ := encVs_at l j hj
    refine ⟨g, 0, rfl, ?_, ?_, ?_, ?_⟩
    · rw [Nat.zero_add, h.cellAt _ (by omega)]; exact e0
    · rw [Nat.zero_add, h.cellAt _ (by omega)]; exact e1
    · rw [Nat.zero_add, h.cellAt _ (by omega)]; exact e2
    · rw [Nat.zero_add, h.cellAt _ (by omega)]; exact e3
def rVals (o : ObjR) (v : Value) : List Value := [.int .i64 o.cell.kind, .int .i64 o.cell.n, .string o.cell.text, v]
def encRs : List ObjR → List Value → List Value
  | o :: l, v :: vs => rVals o v ++ encRs l vs
  | _, _ => []
theorem encRs_snoc (o : ObjR) (v : Value) : ∀ (l : List ObjR) (vs : List Value), vs.length = l.length → encRs (l ++ [o]) (vs ++ [v]) = encRs l vs ++ rVals o v
  | [], [], _ => by simp [encRs]
  | a :: l, b :: vs, h => by
    rw [List.cons_append, List.cons_append, encRs, encRs_snoc o v l vs (by simpa using h), encRs, List.append_assoc]
  | [], _ :: _, h => by simp at h
  | _ :: _, [], h => by simp at h
theorem encRs_at : ∀ (l : List ObjR) (vs : List Value) (h : vs.length = l.length) (j : Nat) (hj : j < l.length), (encRs l vs)[j * 4]? = some (.int .i64 (l[j]).cell.kind) ∧ (encRs l vs)[j * 4 + 1]? = some (.int .i64 (l[j]).cell.n) ∧
    (encRs l vs)[j * 4 + 2]? = some (.string (l[j]).cell.text) ∧ (encRs l vs)[j * 4 + 3]? = vs[j]?
  | [], _, _, j, hj => absurd hj (Nat.not_lt_zero j)
  | _ :: _, [], h, _, _ => by simp at h
  | a :: l, v :: vs, h, j, hj => by
    have e : encRs (a :: l) (v :: vs) = .int .i64 a.cell.kind :: .int .i64 a.cell.n :: .string a.cell.text :: v :: encRs l vs := rfl
    rw [e]
    cases j with
    | zero => exact ⟨rfl, rfl, rfl, rfl⟩
    | succ j =>
      have := encRs_at l vs (by simpa using h) j (by simpa using hj)
      have e4 : (j + 1) * 4 = j * 4 + 1 + 1 + 1 + 1 := by omega
      rw [e4]
      simpa using this
/-- A slice of values that an object of the reference holds. -/
def PartR (w : World) (O no : Nat → Prop) (v : Value) (parts : List ValR) : Prop :=
  ∃ A c, v = .slice A parts.length c ∧ parts.length ≤ c ∧ VReads w A parts ∧ ∀ b o, A = some ⟨b, o, none⟩ → O b ∧ ¬ no b
structure RfRep (w : World) (O : Nat → Prop) (ra cells : Nat) (rs : List ObjR) (vO : Value) (pv : List Value) : Prop where
  blk : w.heap[ra]? = some (.cells #[.int .i64 (cells : Int), vO] 29 (0, 0))
  row : w.ownsRow 3 99 4 vO rs.length (encRs rs pv)
  pl : pv.length = rs.length
  ps : ∀ i (h : i < rs.length) (h' : i < pv.length), PartR w O (fun k => k = ra ∨ vO.ownBlock = some k) pv[i] rs[i].parts
  ora : O ra
  oO : ∀ k, vO.ownBlock = some k → O k ∧ k ≠ ra
  lim : ∀ k, O k → 3 ≤ k ∧ k < w.heap.size
def RfAt (w : World) (O : Nat → Prop) (ra cells : Nat) (rs : List ObjR) : Prop := ∃ vO pv, RfRep w O ra cells rs vO pv
theorem RfRep.same {a b : World} {O : Nat → Prop} {ra cells : Nat} {rs : List ObjR} {vO : Value} {pv : List Value} (h : RfRep a O ra cells rs vO pv) (hs : a.heap.size ≤ b.heap.size) (hb : ∀ k, O k → b.heap[k]? = a.heap[k]?) : RfRep b O ra cells rs vO pv :=
  ⟨(hb _ h.ora).trans h.blk, row_of_block h.row fun k hk => hb k (h.oO k hk).1, h.pl,
    fun i h1 h2 => by
      obtain ⟨A, c, e1, e2, e3, e4⟩ := h.ps i h1 h2
      exact ⟨A, c, e1, e2, e3.same fun g o e => hb g (e4 g o e).1, e4⟩,
    h.ora, h.oO, fun k hk => ⟨(h.lim k hk).1, by have := (h.lim k hk).2; omega⟩⟩
theorem RfAt.same {a b : World} {O : Nat → Prop} {ra cells : Nat} {rs : List ObjR} (h : RfAt a O ra cells rs) (hs : a.heap.size ≤ b.heap.size) (hb : ∀ k, O k → b.heap[k]? = a.heap[k]?) : RfAt b O ra cells rs := by
  obtain ⟨vO, pv, h⟩ := h
  exact ⟨vO, pv, h.same hs hb⟩
theorem RfAt.lim {w : World} {O : Nat → Prop} {ra cells : Nat} {rs : List ObjR} (h : RfAt w O ra cells rs) : ∀ k, O k → 3 ≤ k ∧ k < w.heap.size := by
  obtain ⟨_, _, h⟩ := h
  exact h.lim
theorem RfAt.below {a b : World} {O : Nat → Prop} {ra cells : Nat} {rs : List ObjR} (h : RfAt a O ra cells rs) (hB : Below a.heap.size a b) : RfAt b O ra cells rs :=
  h.same hB.size fun k hk => hB.block k (h.lim k hk).2
theorem RfAt.fr {a b : World} {O O' : Nat → Prop} {ra cells : Nat} {rs : List ObjR} (h : RfAt a O ra cells rs) (hf : Fr O' a b) (hd : ∀ k, O k → ¬ O' k) : RfAt b O ra cells rs :=
  h.same hf.size fun k hk => hf.block k (h.lim k hk).2 (hd k hk)
theorem RfRep.cells {w : World} {O : Nat → Prop} {ra cells : Nat} {rs : List ObjR} {vO : Value} {pv : List Value} (h : RfRep w O ra cells rs vO pv) : w.cell? ⟨ra, 0, none⟩ = some (.int .i64 (cells : Int)) ∧ w.cell? ⟨ra, 1, none⟩ = some vO := by
  refine ⟨?_, ?_⟩ <;> simp [World.cell?, h.blk]
theorem RfRep.objs {w : World} {O : Nat → Prop} {ra cells : Nat} {rs : List ObjR} {vO : Value} {pv : List Value} (h : RfRep w O ra cells rs vO pv) (k : Nat) (hk : k < rs.length) :
    ∃ g cap, vO = .slice (some ⟨g, 0, none⟩) rs.length cap ∧ w.cell? ⟨g, k * 4, none⟩ = some (.int .i64 (rs[k]).cell.kind) ∧ w.cell? ⟨g, k * 4 + 1, none⟩ = some (.int .i64 (rs[k]).cell.n) ∧ w.cell? ⟨g, k * 4 + 2, none⟩ = some (.string (rs[k]).cell.text) ∧ w.cell? ⟨g, k * 4 + 3, none⟩ = pv[k]? := by
  rcases h.row.2 with ⟨_, h0⟩ | ⟨g, cap, cur, e, _⟩
  · omega
  · obtain ⟨e0, e1, e2, e3⟩ := encRs_at rs pv h.pl k hk
    have hro := h.row
    rw [e] at hro
    refine ⟨g, cap, e, ?_, ?_, ?_, ?_⟩
    · rw [hro.cellAt _ (by omega)]; exact e0
    · rw [hro.cellAt _ (by omega)]; exact e1
    · rw [hro.cellAt _ (by omega)]; exact e2
    · rw [hro.cellAt _ (by omega)]; exact e3
def smallB (c : CellD) : Bool := c.kind == 6 || (c.kind == 1 && (decide (-576460752303423488 ≤ c.n) && decide (c.n < 576460752303423488)))
theorem smallB_iff (c : CellD) : smallB c = true ↔ SmallC c := by
  unfold smallB SmallC smallI
  simp
theorem smallB_eq (c : CellD) : smallB c = decide (SmallC c) := by
  by_cases h : SmallC c
  · rw [(smallB_iff c).2 h]; simp [h]
  · cases hb : smallB c with
    | false => simp [h]
    | true => exact absurd ((smallB_iff c).1 hb) h
theorem small_any (c : CellD) (w : World) :
    Calls Tryd.prog 59 #[.agg #[.int .i64 c.kind, .int .i64 c.n, .string c.text]] w fun e w' => e = .returned (.bool (smallB c)) ∧ Below w.heap.size w w' := by
  by_cases h6 : c.kind = 6
  · have e6 : (c.kind == 6) = true := by rw [h6]; rfl
    have H := Lib.hid (show smallB c = true by unfold smallB; rw [e6]; rfl)
    clear h6
    go_enter Tryd.func59, Tryd.ntmps59
    go_wp2
    go_ret
    exact ⟨by rw [H.out]; rfl, below_one _ _⟩
  · have e6 : (c.kind == 6) = false := beq_eq_false_iff_ne.2 h6
    by_cases h1 : c.kind = 1
    · have e1 : (c.kind == 1) = true := by rw [h1]; rfl
      have H := Lib.hid (show smallB c = (decide (-576460752303423488 ≤ c.n) && decide (c.n < 576460752303423488)) by unfold smallB; rw [e6, e1]; rfl)
      clear h6 h1
      by_cases ha : -576460752303423488 ≤ c.n
      · have da : decide (-576460752303423488 ≤ c.n) = true := decide_eq_true ha
        rw [da] at H
        go_enter Tryd.func59, Tryd.ntmps59
        go_wp2
        go_ret
        exact ⟨by rw [H.out]; rfl, below_one _ _⟩
      · have da : decide (-576460752303423488 ≤ c.n) = false := decide_eq_false ha
        rw [da] at H
        go_enter Tryd.func59, Tryd.ntmps59
        go_wp2
        go_ret
        exact ⟨by rw [H.out]; rfl, below_one _ _⟩
    · have e1 : (c.kind == 1) = false := beq_eq_false_iff_ne.2 h1
      have H := Lib.hid (show smallB c = false by unfold smallB; rw [e6, e1]; rfl)
      clear h6 h1
      go_enter Tryd.func59, Tryd.ntmps59
      go_wp2
      go_ret
      exact ⟨by rw [H.out]; rfl, below_one _ _⟩
end Go.Proofs.YtejcbpbhhofhlaaDoor.Tm
