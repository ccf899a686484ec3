/- The parts of a term, of the reference's text. -/
import Derived.Test.YtejcbpbhhofhlaaDoorBase
import Derived.Handy
import Derived.Deep.RegionHeld3
namespace Go.Proofs.YtejcbpbhhofhlaaDoor.Tm
open Go.RowKit
set_option linter.unusedVariables false
set_option linter.unusedSimpArgs false
/-! so many terms (or patterns) ahead of a list -/
def spanK : List CellD → Nat → Nat
  | _, 0 => 0
  | [], _ + 1 => 0
  | c :: l, k + 1 => 1 + spanK l (k + kidsD c)
def skipK (l : List CellD) (k : Nat) : List CellD := l.drop (spanK l k)
def hasK : List CellD → Nat → Prop
  | _, 0 => True
  | [], _ + 1 => False
  | c :: l, k + 1 => hasK l (k + kidsD c)
theorem spanK_zero (l : List CellD) : spanK l 0 = 0 := by cases l <;> rfl
theorem skipK_zero (l : List CellD) : skipK l 0 = l := by rw [skipK, spanK_zero]; rfl
theorem skipK_cons (c : CellD) (l : List CellD) (k : Nat) : skipK (c :: l) (k + 1) = skipK l (k + kidsD c) := by
  unfold skipK
  rw [show spanK (c :: l) (k + 1) = 1 + spanK l (k + kidsD c) from rfl, Nat.add_comm, List.drop_succ_cons]
theorem span_le : ∀ (l : List CellD) (k : Nat), spanK l k ≤ l.length
  | l, 0 => by rw [spanK_zero]; omega
  | [], k + 1 => Nat.le_refl _
  | c :: l, k + 1 => by
    have := span_le l (k + kidsD c)
    show 1 + spanK l (k + kidsD c) ≤ l.length + 1
    omega
theorem hasK_zero (l : List CellD) : hasK l 0 := by cases l <;> trivial
theorem endL_has : ∀ (l : List CellD) (i k : Nat), hasK l (k + 1) → endL l i (k + 1) = (((i + spanK l (k + 1) : Nat) : Int), 0)
  | [], i, k, h => h.elim
  | c :: l, i, k, h => by
    have h' : hasK l (k + kidsD c) := h
    unfold endL
    show (if ((k : Int) + 1) - 1 + kidsD c = 0 then _ else _) = (((i + (1 + spanK l (k + kidsD c)) : Nat) : Int), 0)
    rcases Nat.eq_zero_or_pos (k + kidsD c) with e | e
    · rw [if_pos (by omega), e, spanK_zero]; simp
    · rw [if_neg (by omega)]
      obtain ⟨m, hm⟩ : ∃ m, k + kidsD c = m + 1 := ⟨k + kidsD c - 1, by omega⟩
      rw [hm] at h' ⊢
      have := endL_has l (i + 1) m h'
      rw [show (k : Int) + 1 - 1 + kidsD c = (m : Int) + 1 by omega, this]
      congr 2; omega
/-- The open terms of a list close at its end. -/
def Wf : List CellD → Int → Prop
  | [], o => o = 0
  | c :: l, o => 0 < o ∧ Wf l (o - 1 + kidsD c)
theorem Good.wf : ∀ {l : List CellD} {o : Int}, Good l o → Wf l o
  | [], o, h => h
  | c :: l, o, h => ⟨h.2.1, Good.wf h.2.2⟩
theorem Wf.has : ∀ {l : List CellD} {o : Int} {k : Nat}, Wf l o → (k : Int) ≤ o → hasK l k
  | l, o, 0, h, e => hasK_zero l
  | [], o, k + 1, h, e => by have h0 : o = 0 := h; omega
  | c :: l, o, k + 1, h, e => Wf.has (l := l) (k := k + kidsD c) h.2 (by push_cast at e ⊢; omega)
theorem Wf.skip : ∀ {l : List CellD} {o : Int} {k : Nat}, Wf l o → (k : Int) ≤ o → Wf (skipK l k) (o - k)
  | l, o, 0, h, e => by rw [skipK_zero]; simpa using h
  | [], o, k + 1, h, e => by have h0 : o = 0 := h; omega
  | c :: l, o, k + 1, h, e => by
    have := Wf.skip (l := l) (k := k + kidsD c) h.2 (by push_cast at e ⊢; omega)
    rw [skipK_cons]
    rw [show o - ((k + 1 : Nat) : Int) = o - 1 + kidsD c - ((k + kidsD c : Nat) : Int) by push_cast; omega]
    exact this
theorem Wf.pos {l : List CellD} {o : Int} (h : Wf l o) (hl : l ≠ []) : 0 < o := by
  cases l with
  | nil => exact absurd rfl hl
  | cons c l => exact h.1
theorem Wf.nonneg : ∀ {l : List CellD} {o : Int}, Wf l o → 0 ≤ o
  | [], o, h => by have h0 : o = 0 := h; omega
  | c :: l, o, h => by have := h.1; omega
theorem Wf.ne {l : List CellD} {o : Int} (h : Wf l o) (ho : 0 < o) : l ≠ [] := fun e => by
  subst e
  have h0 : o = 0 := h
  omega
theorem skip_add : ∀ (l : List CellD) (a b : Nat), skipK (skipK l a) b = skipK l (a + b)
  | l, 0, b => by rw [skipK_zero, Nat.zero_add]
  | [], a + 1, b => by
    have e : ∀ k, skipK [] k = [] := fun k => by simp [skipK]
    rw [e, e, e]
  | c :: l, a + 1, b => by
    rw [skipK_cons, skip_add l (a + kidsD c) b, show a + 1 + b = (a + b) + 1 by omega, skipK_cons]
    congr 1; omega
/-- The place behind a term of a suffix. -/
theorem endE_suffix {l : List CellD} {j : Nat} {o : Int} (h : Wf (l.drop j) o) (ho : 0 < o) (hj : j < l.length) : endE l j = (((j + spanK (l.drop j) 1 : Nat) : Int), 0) ∧ j + spanK (l.drop j) 1 ≤ l.length ∧ j < j + spanK (l.drop j) 1 := by
  have hk : hasK (l.drop j) (0 + 1) := h.has (by omega)
  refine ⟨?_, ?_, ?_⟩
  · rw [endE, if_neg (by omega), Int.toNat_natCast]
    exact endL_has (l.drop j) j 0 hk
  · have := span_le (l.drop j) 1
    simp at this; omega
  · rw [List.drop_eq_getElem_cons hj]
    show j < j + (1 + spanK _ _)
    omega
theorem drop_span {l : List CellD} (j k : Nat) : l.drop (j + spanK (l.drop j) k) = skipK (l.drop j) k := by
  rw [skipK, List.drop_drop]
theorem take_span {l : List CellD} (j k : Nat) (h : j + spanK (l.drop j) k ≤ l.length) : (l.drop j).take (spanK (l.drop j) k) = (l.take (j + spanK (l.drop j) k)).drop j := by
  rw [List.drop_take]; congr 1; omega

/-- What bounds a list of cells that came in or was made. -/
structure Fine (l : List CellD) : Prop where
  len : l.length * 32 ≤ 140737488351232
  text : ∀ j (h : j < l.length), (l[j]).text.size ≤ 9223372036854775807
def Fine2 (ls : List (List CellD)) : Prop := ∀ j (h : j < ls.length), Fine ls[j]
theorem Fine.lim {l : List CellD} (h : Fine l) : l.length ≤ 1000000000000000 := by have := h.len; omega
theorem Fine.nil : Fine [] := ⟨by simp, fun j h => absurd h (Nat.not_lt_zero j)⟩
theorem Fine2.drop {ls : List (List CellD)} (h : Fine2 ls) (k : Nat) : Fine2 (ls.drop k) := fun j hj => by
  rw [List.getElem_drop]; exact h _ _
theorem Fine2.tail {l : List CellD} {ls : List (List CellD)} (h : Fine2 (l :: ls)) : Fine2 ls := fun j hj => by
  have := h (j + 1) (by simpa using hj)
  rwa [List.getElem_cons_succ] at this
theorem Fine2.head {l : List CellD} {ls : List (List CellD)} (h : Fine2 (l :: ls)) : Fine l := h 0 (by simp)
theorem Fine2.nil : Fine2 [] := fun j h => absurd h (Nat.not_lt_zero j)
theorem Fine2.cons {l : List CellD} {ls : List (List CellD)} (h : Fine l) (k : Fine2 ls) : Fine2 (l :: ls) := fun j hj => by
  cases j with
  | zero => exact h
  | succ j =>
    rw [List.getElem_cons_succ]
    exact k j (by simpa using hj)

/-- A cell that holds a slice of cells. -/
def SlAt (w : World) (b o : Nat) (l : List CellD) : Prop := ∃ A c, w.cell? ⟨b, o, none⟩ = some (.slice A l.length c) ∧ l.length ≤ c ∧ Reads w A l
def Reads2 (w : World) (A : Option Addr) (ls : List (List CellD)) : Prop := ∀ j (h : j < ls.length), ∃ b o, A = some ⟨b, o, none⟩ ∧ SlAt w b (o + j) ls[j]
theorem SlAt.below {w W : World} {b o : Nat} {l : List CellD} (h : SlAt w b o l) (hB : Below w.heap.size w W) : SlAt W b o l := by
  obtain ⟨A, c, h0, h1, h2⟩ := h
  exact ⟨A, c, cell_below hB h0, h1, h2.below hB⟩
theorem Reads2.below {w W : World} {A : Option Addr} {ls : List (List CellD)} (h : Reads2 w A ls) (hB : Below w.heap.size w W) : Reads2 W A ls := fun j hj => by
  obtain ⟨b, o, e, hc⟩ := h j hj
  exact ⟨b, o, e, hc.below hB⟩
theorem Reads2.drewN {w : World} {A : Option Addr} {ls : List (List CellD)} (h : Reads2 w A ls) (n : Nat) : Reads2 (w.drewN n) A ls := h
theorem Reads2.nil (w : World) (A : Option Addr) : Reads2 w A [] := fun j hj => absurd hj (Nat.not_lt_zero j)
theorem Reads2.take {w : World} {A : Option Addr} {ls : List (List CellD)} (h : Reads2 w A ls) (m : Nat) : Reads2 w A (ls.take m) := fun j hj => by
  obtain ⟨b, o, e, hc⟩ := h j (by simp at hj; omega)
  exact ⟨b, o, e, by rw [List.getElem_take]; exact hc⟩
theorem Reads2.drop {w : World} {b o : Nat} {ls : List (List CellD)} (h : Reads2 w (some ⟨b, o, none⟩) ls) (m : Nat) : Reads2 w (some ⟨b, o + m, none⟩) (ls.drop m) := fun j hj => by
  obtain ⟨b', o', e, hc⟩ := h (m + j) (by simp at hj; omega)
  obtain ⟨rfl, rfl⟩ : b = b' ∧ o = o' := by simpa using e
  refine ⟨b, o + m, rfl, ?_⟩
  rw [List.getElem_drop]
  have e2 : o + m + j = o + (m + j) := by omega
  rw [e2]; exact hc
theorem Reads2.one {w : World} {b : Nat} {l : List CellD} (h : SlAt w b 0 l) : Reads2 w (some ⟨b, 0, none⟩) [l] := fun j hj => by
  have : j = 0 := by simpa using hj
  subst this
  exact ⟨b, 0, rfl, by simpa using h⟩
theorem Reads2.two {w : World} {b : Nat} {l m : List CellD} (h : SlAt w b 0 l) (k : SlAt w b 1 m) : Reads2 w (some ⟨b, 0, none⟩) [l, m] := fun j hj => by
  have : j = 0 ∨ j = 1 := by simp at hj; omega
  rcases this with rfl | rfl
  · exact ⟨b, 0, rfl, by simpa using h⟩
  · exact ⟨b, 0, rfl, by simpa using k⟩
theorem slAt_new2 {w : World} {A B : Option Addr} {c d : Nat} {l m : List CellD} {t : TypeId} (hr : Reads w A l) (hl : l.length ≤ c) (hr2 : Reads w B m) (hm : m.length ≤ d) :
    Reads2 (w.alloc (.cells #[.slice A l.length c, .slice B m.length d] t)) (some ⟨w.heap.size, 0, none⟩) [l, m] :=
  Reads2.two ⟨A, c, by go_cell, hl, hr.below (below_one _ _)⟩ ⟨B, d, by go_cell, hm, hr2.below (below_one _ _)⟩
theorem slAt_new1 {w : World} {A : Option Addr} {c : Nat} {l : List CellD} {t : TypeId} (hr : Reads w A l) (hl : l.length ≤ c) :
    Reads2 (w.alloc (.cells #[.slice A l.length c] t)) (some ⟨w.heap.size, 0, none⟩) [l] :=
  Reads2.one ⟨A, c, by go_cell, hl, hr.below (below_one _ _)⟩

theorem reads_block {w : World} {g : Nat} {cs : Array Value} {t : TypeId} {l : List CellD} (h : w.heap[g]? = some (.cells cs t (0, 0))) (hc : cs.toList = encs l) : Reads w (some ⟨g, 0, none⟩) l := fun j hj => by
  obtain ⟨e0, e1, e2⟩ := encs_at l j hj
  rw [← hc, Array.getElem?_toList] at e0 e1 e2
  refine ⟨g, 0, rfl, ?_, ?_, ?_⟩ <;> rw [Nat.zero_add]
  · simp [World.cell?, h, e0]
  · simp [World.cell?, h, e1]
  · simp [World.cell?, h, e2]
theorem reads_new (w : World) {cs : Array Value} {t : TypeId} {l : List CellD} (hc : cs.toList = encs l) : Reads (w.alloc (.cells cs t)) (some ⟨w.heap.size, 0, none⟩) l := reads_block (heap_new w _) hc

theorem row_form {w : World} {base n c : Nat} {e : TypeId} {size : Nat} {A : Option Addr} {xs : List Value} (h : w.ownsRow base e size (.slice A n c) n xs) (hn : 0 < n) : ∃ g, A = some ⟨g, 0, none⟩ ∧ base ≤ g ∧ g < w.heap.size := by
  rcases h.2 with ⟨_, h0⟩ | ⟨g, cap, cur, hv, hb, hh, _⟩
  · omega
  · obtain ⟨rfl, rfl⟩ : A = some ⟨g, 0, none⟩ ∧ c = cap := by simpa using hv
    exact ⟨g, rfl, hb, lt_of_block hh⟩
theorem sl_info : (Tryd.prog.info? 35).map (fun i => (i.zero, i.size, i.bytes)) = some (some (.slice none 0 0), 1, 24) := by kernel_rfl
/-- Two rows whose element types differ share no block. -/
theorem rows_ne {w : World} {b b' : Nat} {e e' : TypeId} {s s' n n' : Nat} {v v' : Value} {xs xs' : List Value} (h : w.ownsRow b e s v n xs) (k : w.ownsRow b' e' s' v' n' xs') (hne : e ≠ e') : v.ownBlock = none ∨ v.ownBlock ≠ v'.ownBlock := by
  rcases h.2 with ⟨rfl, _⟩ | ⟨g, cap, cur, rfl, _, hh, _⟩
  · exact .inl rfl
  · rcases k.2 with ⟨rfl, _⟩ | ⟨g', cap', cur', rfl, _, kk, _⟩
    · exact .inr (by simp [Value.ownBlock])
    · refine .inr fun e1 => ?_
      have : g = g' := by simpa [Value.ownBlock] using e1
      subst this
      rw [hh] at kk
      injection kk with kk
      injection kk with _ kk
      exact hne kk
/-- Slices that a row holds, each a term of the call's own with a property. -/
def Each (P : Option Addr → Nat → List CellD → Prop) (vs : List Value) (ls : List (List CellD)) : Prop :=
  vs.length = ls.length ∧ ∀ j (h : j < ls.length), ∃ A c, vs[j]? = some (.slice A ls[j].length c) ∧ P A c ls[j]
theorem Each.mono {P Q : Option Addr → Nat → List CellD → Prop} {vs : List Value} {ls : List (List CellD)} (h : Each P vs ls) (k : ∀ A c l, P A c l → Q A c l) : Each Q vs ls :=
  ⟨h.1, fun j hj => by
    obtain ⟨A, c, e, p⟩ := h.2 j hj
    exact ⟨A, c, e, k _ _ _ p⟩⟩
theorem Each.nil {P : Option Addr → Nat → List CellD → Prop} : Each P [] [] := ⟨rfl, fun j h => absurd h (Nat.not_lt_zero j)⟩
theorem Each.snoc {P : Option Addr → Nat → List CellD → Prop} {vs : List Value} {ls : List (List CellD)} {A : Option Addr} {c : Nat} {l : List CellD} (h : Each P vs ls) (p : P A c l) : Each P (vs ++ [.slice A l.length c]) (ls ++ [l]) := by
  refine ⟨by simp [h.1], fun j hj => ?_⟩
  by_cases e : j < ls.length
  · obtain ⟨A', c', e1, p1⟩ := h.2 j e
    refine ⟨A', c', ?_, ?_⟩
    · rw [List.getElem_append_left e, List.getElem?_append_left (by rw [h.1]; exact e)]; exact e1
    · rw [List.getElem_append_left e]; exact p1
  · have : j = ls.length := by simp at hj; omega
    subst this
    refine ⟨A, c, ?_, ?_⟩
    · rw [List.getElem?_append_right (by rw [h.1]; exact Nat.le_refl _)]; simp [h.1]
    · simpa using p
theorem Each.one {P : Option Addr → Nat → List CellD → Prop} {vs : List Value} {ls : List (List CellD)} (h : Each P vs ls) : ∀ u ∈ vs, u.oneCell' = true := by
  intro u hu
  obtain ⟨j, hj, rfl⟩ := List.mem_iff_getElem.1 hu
  obtain ⟨A, c, e, _⟩ := h.2 j (by rw [← h.1]; exact hj)
  rw [List.getElem?_eq_getElem hj] at e
  injection e with e
  rw [e]; rfl
theorem slice_one (A : Option Addr) (n c : Nat) : ∀ u ∈ [Value.slice A n c], u.oneCell' = true := by simp [Value.oneCell']
theorem row_cell1 {w : World} {base n c g : Nat} {e : TypeId} {xs : List Value} (h : w.ownsRow base e 1 (.slice (some ⟨g, 0, none⟩) n c) n xs) {j : Nat} {u : Value} (hu : xs[j]? = some u) : w.cell? ⟨g, j, none⟩ = some u := by
  have hj : j < xs.length := (List.getElem?_eq_some_iff.1 hu).1
  rw [h.cellAt j (by rw [← h.1]; exact hj)]; exact hu
/-- A row whose slices read as terms reads as those. -/
theorem Reads2.of_row {w : World} {base n c : Nat} {A : Option Addr} {e : TypeId} {vs rest : List Value} {ls : List (List CellD)} {P : Option Addr → Nat → List CellD → Prop} (h : w.ownsRow base e 1 (.slice A n c) n (vs ++ rest)) (hE : Each P vs ls)
    (hP : ∀ A c l, P A c l → l.length ≤ c ∧ Reads w A l) : Reads2 w A ls := fun j hj => by
  obtain ⟨Aj, cj, e1, p⟩ := hE.2 j hj
  have hv : j < vs.length := by rw [hE.1]; exact hj
  have hn : 0 < n := by have := h.1; simp at this; omega
  obtain ⟨g, rfl, _, _⟩ := row_form h hn
  refine ⟨g, 0, rfl, Aj, cj, ?_, (hP _ _ _ p).1, (hP _ _ _ p).2⟩
  rw [Nat.zero_add]
  exact row_cell1 h (by rw [List.getElem?_append_left hv]; exact e1)
/-- What append takes one slice from. -/
theorem Src.slice1 {w : World} {b : Nat} {v : Value} (h : w.cell? ⟨b, 0, none⟩ = some v) (h1 : v.oneCell' = true) : Src w 1 (some ⟨b, 0, none⟩) 1 [v] :=
  { len := rfl
    nil := fun e => by cases e
    at_ := fun ad e j u hj => by
      cases e
      have hz : j = 0 := by
        have := (List.getElem?_eq_some_iff.1 hj).1
        simpa using this
      subst hz
      have e2 : ((⟨b, 0, none⟩ : Addr).add 0) = ⟨b, 0, none⟩ := by unfold Addr.add; simp
      rw [e2]
      simp at hj
      rw [← hj]; exact h
    one := by simpa using h1 }
set_option maxHeartbeats 2000000 in
theorem rend_any (l : List CellD) (A : Option Addr) (cap : Nat) (n : Int) (w : World) (hr : Reads w A l) (hl : l.length ≤ 1000000000000000) (hn : -9223372036854775808 ≤ n ∧ n < 9223372036854775808) :
    Calls Tryd.prog 75 #[.slice A l.length cap, .int .i64 n] w fun e w' => e = .returned (.tuple #[.int .i64 (endE l n).1, .int .i64 (endE l n).2]) ∧ Below w.heap.size w w' := by
  by_cases h0 : n < 0
  · have H := Lib.hid (show endE l n = (0, 1) by rw [endE, if_pos (.inl h0)])
    clear hr
    go_enter Tryd.func75, Tryd.ntmps75
    go_wp2
    go_ret2
    exact ⟨by rw [H.out]; rfl, Below.refl _ _⟩
  by_cases h1 : (l.length : Int) ≤ n
  · have H := Lib.hid (show endE l n = (0, 1) by rw [endE, if_pos (.inr h1)])
    clear hr
    go_enter Tryd.func75, Tryd.ntmps75
    go_wp2
    go_ret2
    exact ⟨by rw [H.out]; rfl, Below.refl _ _⟩
  have H := Lib.hid (show endE l n = endL (l.drop n.toNat) n.toNat 1 by rw [endE, if_neg (by omega)])
  obtain ⟨m, rfl⟩ : ∃ m : Nat, n = m := ⟨n.toNat, by omega⟩
  rw [Int.toNat_natCast] at H
  have HR := Lib.hid hr
  clear hr
  have hm : m < l.length := by omega
  have hl0 : (decide ((m : Int) < 0)) = false := decide_eq_false (by omega)
  have hl1 : (decide ((l.length : Int) ≤ (m : Int))) = false := decide_eq_false (by omega)
  go_enter Tryd.func75, Tryd.ntmps75
  go_wp2_with fail
  go_loopw [6, 7] (fun o i wr => ∃ j : Nat, ∃ ov : Int, j ≤ l.length ∧ o = .int .i64 ov ∧ i = .int .i64 j ∧ -(j : Int) - 1 ≤ ov ∧ ov ≤ 1 + 255 * (j : Int) ∧ Below w.heap.size w wr ∧ Hid (endE l m = endL (l.drop j) j ov)) (fun o i wr => l.length - (intOf i).toNat)
  case atStart => exact ⟨m, 1, by omega, rfl, rfl, by omega, by omega, Below.refl _ _, H⟩
  case round =>
    obtain ⟨j, ov, hj, rfl, rfl, ho0, ho1, hB, hH⟩ := hrel
    by_cases hlt : j < l.length
    · obtain ⟨b, o, rfl, hc⟩ := HR.out j hlt
      obtain ⟨hc0, hc1, hc2⟩ := hc.below hB
      have hk := kidsD_le l[j]
      go_wp2_with fail
      refine (rkids_any l[j] _).mono ?_
      rintro e w' ⟨rfl, hb⟩
      have hB2 := below_then hB hb
      by_cases ho : ov - 1 + kidsD l[j] = 0
      · have hF := Lib.hid (hH.out.trans (end_done hlt ho))
        clear hH H
        go_wp2
        go_ret2
        exact ⟨by rw [hF.out]; rfl, hB2⟩
      · have hF := Lib.hid (hH.out.trans (end_next hlt ho))
        clear hH H
        go_wp2
        go_roundw
        case rel => exact ⟨j + 1, ov - 1 + kidsD l[j], by omega, by go_num, by go_num, by omega, by omega, hB2, hF⟩
        case measure => simp [intOf]; omega
    · have hF := Lib.hid (hH.out.trans (end_short (by omega)))
      clear hH H
      go_wp2
      go_ret2
      exact ⟨by rw [hF.out]; rfl, hB⟩
def partsK : Nat → List CellD → List (List CellD)
  | 0, _ => []
  | k + 1, l => l.take (spanK l 1) :: partsK k (skipK l 1)
def partsE : List CellD → List (List CellD)
  | [] => []
  | c :: l => partsK (kidsD c) l
/-- A row of the call's own of slices that read as lists. -/
def SlsAt (w : World) (base : Nat) (A : Option Addr) (cap : Nat) (ls : List (List CellD)) : Prop :=
  ∃ vs : List Value, w.ownsRow base 35 1 (.slice A ls.length cap) ls.length vs ∧ Each (fun A c l => l.length ≤ c ∧ Reads w A l) vs ls
theorem SlsAt.below {w W : World} {base cap : Nat} {A : Option Addr} {ls : List (List CellD)} (h : SlsAt w base A cap ls) (hB : Below w.heap.size w W) : SlsAt W base A cap ls := by
  obtain ⟨vs, h1, h2⟩ := h
  exact ⟨vs, row_below h1 hB, h2.mono fun _ _ _ p => ⟨p.1, p.2.below hB⟩⟩
theorem SlsAt.reads {w : World} {base cap : Nat} {A : Option Addr} {ls : List (List CellD)} (h : SlsAt w base A cap ls) : Reads2 w A ls := by
  obtain ⟨vs, h1, h2⟩ := h
  exact Reads2.of_row (rest := []) (by rw [List.append_nil]; exact h1) h2 fun _ _ _ p => p
theorem partsK_len : ∀ (k : Nat) (l : List CellD), (partsK k l).length = k
  | 0, l => rfl
  | k + 1, l => by rw [partsK, List.length_cons, partsK_len k]
theorem partsE_len (t : List CellD) : (partsE t).length ≤ 255 := by
  cases t with
  | nil => simp [partsE]
  | cons c l => rw [partsE, partsK_len]; exact kidsD_le c
theorem partsK_small : ∀ (k : Nat) (l : List CellD), ∀ p ∈ partsK k l, p.length ≤ l.length
  | 0, l, p, h => by cases h
  | k + 1, l, p, h => by
    rw [partsK] at h
    rcases List.mem_cons.1 h with rfl | h
    · rw [List.length_take]; omega
    · have := partsK_small k _ p h
      unfold skipK at this
      rw [List.length_drop] at this
      omega
theorem partsE_small (t : List CellD) : ∀ p ∈ partsE t, p.length ≤ t.length := by
  cases t with
  | nil => intro p h; cases h
  | cons c l => intro p h; have := partsK_small _ _ p h; simp; omega
theorem parts_start {t : List CellD} (h : (rightE t).1 = 0) : ∃ c l, t = c :: l ∧ Wf l (kidsD c : Int) ∧ partsE t = partsK (kidsD c) l := by
  have hg := (rightE_ok h).1.wf
  cases t with
  | nil => exact absurd hg (by simp [Wf])
  | cons c l => exact ⟨c, l, rfl, by have := hg.2; simpa using this, rfl⟩
/-- One round, over plain lists. -/
theorem parts_step {t : List CellD} {m k : Nat} {ls : List (List CellD)} (hW : Wf (t.drop m) (k : Int)) (hE : ls ++ partsK k (t.drop m) = partsE t) (hm : m < t.length) :
    ∃ m2 k2 : Nat, k = k2 + 1 ∧ endE t m = ((m2 : Int), 0) ∧ m2 ≤ t.length ∧ m < m2 ∧ ((t.drop m).take (m2 - m)).length = m2 - m ∧ Wf (t.drop m2) (k2 : Int) ∧ (ls ++ [(t.drop m).take (m2 - m)]) ++ partsK k2 (t.drop m2) = partsE t := by
  have hne : t.drop m ≠ [] := fun e => by have := congrArg List.length e; rw [List.length_drop] at this; simp at this; omega
  have ho := hW.pos hne
  obtain ⟨k2, rfl⟩ : ∃ k2, k = k2 + 1 := ⟨k - 1, by omega⟩
  obtain ⟨h1, h2, h3⟩ := endE_suffix hW ho hm
  have hs := hW.skip (k := 1) (by omega)
  have hd := drop_span (l := t) m 1
  refine ⟨m + spanK (t.drop m) 1, k2, rfl, h1, h2, h3, ?_, ?_, ?_⟩
  · rw [List.length_take, List.length_drop]; omega
  · rw [hd]; have : ((k2 + 1 : Nat) : Int) - (1 : Nat) = (k2 : Int) := by omega
    rw [this] at hs; exact hs
  · rw [hd, Nat.add_sub_cancel_left, ← hE, partsK, List.append_assoc]; rfl
/-- Such a row whose slices lie in one block. -/
def SlsB (w : World) (base : Nat) (A : Option Addr) (cap b : Nat) (ls : List (List CellD)) : Prop :=
  ∃ vs : List Value, w.ownsRow base 35 1 (.slice A ls.length cap) ls.length vs ∧ Each (fun A c l => l.length ≤ c ∧ Reads w A l ∧ ∃ o', A = some ⟨b, o', none⟩) vs ls
theorem SlsB.at_ {w : World} {base cap b : Nat} {A : Option Addr} {ls : List (List CellD)} (h : SlsB w base A cap b ls) : SlsAt w base A cap ls := by
  obtain ⟨vs, h1, h2⟩ := h
  exact ⟨vs, h1, h2.mono fun _ _ _ p => ⟨p.1, p.2.1⟩⟩
set_option maxRecDepth 100000 in
set_option maxHeartbeats 4000000 in
theorem wpartsB_any (t : List CellD) (B : Option Addr) (ct : Nat) (w : World) (ht : Reads w B t) (hct : t.length ≤ ct) (et : (rightE t).1 = 0) :
    Calls Tryd.prog 56 #[.slice B t.length ct] w fun e w' => ∃ A' c' b o, B = some ⟨b, o, none⟩ ∧ e = .returned (.slice A' (partsE t).length c') ∧ SlsB w' w.heap.size A' c' b (partsE t) ∧ Below w.heap.size w w' := by
  obtain ⟨i0, hi, hz0, hz1, hz2⟩ := info_parts sl_info
  have HT := Lib.hid ht
  have htl := (rightE_ok et).2.2
  obtain ⟨c0, l0, e0, hw0, hp0⟩ := parts_start et
  have hpos : 1 ≤ t.length := by rw [e0]; simp
  have W0 := Lib.hid (show Wf (t.drop 1) (kidsD c0 : Int) by rw [e0]; exact hw0)
  have E0 := Lib.hid (show [] ++ partsK (kidsD c0) (t.drop 1) = partsE t by rw [hp0, e0]; rfl)
  have h0 : t[0] = c0 := by simp [e0]
  have hkk := kidsD_le c0
  clear ht et hw0 hp0
  obtain ⟨b, o, hA, hc0⟩ := HT.out 0 hpos
  subst hA
  rw [h0] at hc0
  have HC0 := Lib.hid hc0
  have t0 : ((t.length : Int) == 0) = false := beq_eq_false_iff_ne.2 (by omega)
  have hi1 : (0 : Int) < (t.length : Int) := by omega
  clear hc0 h0 e0
  go_enter Tryd.func56, Tryd.ntmps56
  go_wp2_with fail
  go_loopw [3, 4, 5] (fun v a i wr => ∃ (m k j : Nat) (A' : Option Addr) (c' : Nat) (vs : List Value) (ls : List (List CellD)), 1 ≤ m ∧ m ≤ t.length ∧ ls.length ≤ m ∧ j + k = kidsD c0 ∧ i = .int .i64 j ∧ a = .int .i64 m ∧ v = .slice A' ls.length c' ∧ Hid (wr.ownsRow w.heap.size 35 1 (.slice A' ls.length c') ls.length vs) ∧ Hid (Each (fun A c l => l.length ≤ c ∧ Reads w A l ∧ ∃ o', A = some ⟨b, o', none⟩) vs ls) ∧ Below w.heap.size w wr ∧ Hid (Wf (t.drop m) (k : Int)) ∧ Hid (ls ++ partsK k (t.drop m) = partsE t)) (fun v a i wr => kidsD c0 - (intOf i).toNat)
  case atStart => exact ⟨1, kidsD c0, 0, none, 0, [], [], by omega, hpos, by simp, by omega, rfl, rfl, rfl, row_nil _ _ _ _, Each.nil, Below.refl _ _, W0, E0⟩
  case round =>
    obtain ⟨m, k, j, A', c', vs, ls, hm1, hm, hll, hjk, rfl, rfl, rfl, hrow, hE, hB, hW, hS⟩ := hrel
    clear W0 E0
    obtain ⟨z0, z1, z2⟩ := HC0.out.below hB
    rw [Nat.zero_mul, Nat.add_zero] at z0 z1 z2
    go_wp2_with fail
    refine (rkids_any c0 _).mono ?_
    rintro e w0 ⟨rfl, hb0⟩
    have hB0 := below_then hB hb0
    by_cases hlt : j < kidsD c0
    · have hmt : m < t.length := by
        rcases Nat.lt_or_ge m t.length with h | h
        · exact h
        · have hw := hW.out
          rw [List.drop_eq_nil_of_le h] at hw
          have h0 : (k : Int) = 0 := hw
          omega
      obtain ⟨m2, k2, rfl, g1, g2, g3, g4, g5, g6⟩ := parts_step hW.out hS.out hmt
      have W2 := Lib.hid g5
      have E2 := Lib.hid g6
      have HRP := Lib.hid (show Reads w (some ⟨b, o + m * 3, none⟩) ((t.drop m).take (m2 - m)) from (HT.out.drop m).take _)
      have hj1 : (j : Int) < (kidsD c0 : Int) := by omega
      have hj0 : (0 : Int) ≤ (j : Int) := Int.natCast_nonneg _
      have hi0 : (0 : Int) ≤ (m : Int) := Int.natCast_nonneg _
      have hrow0 := Lib.hid (row_below hrow.out hb0)
      clear g5 g6 hW hS hrow z0 z1 z2 hb0
      obtain ⟨part, hpart⟩ : ∃ part, (t.drop m).take (m2 - m) = part := ⟨_, rfl⟩
      rw [hpart] at g4 HRP E2
      clear hpart
      go_wp2_with fail
      refine (rend_any t (some ⟨b, o, none⟩) ct m _ (HT.out.below hB0) (by omega) (by omega)).mono ?_
      rw [g1]
      rintro e w1 ⟨rfl, hb1⟩
      have hB1 := below_then hB0 hb1
      have hrow1 := Lib.hid (row_below hrow0.out hb1)
      have hjm : (m : Int) ≤ (m2 : Int) := by omega
      have hmc : (m2 : Int) ≤ (ct : Int) := by omega
      have hjc : ¬ ct = m := by omega
      have hcc : (w1.alloc (.cells #[.slice (some ⟨b, o + m * 3, none⟩) (m2 - m) (ct - m)] 35)).cell? ⟨w1.heap.size, 0, none⟩ = some (.slice (some ⟨b, o + m * 3, none⟩) (m2 - m) (ct - m)) := by go_cell
      clear hrow0 g1 hb1
      go_wp2_with (at_builtin; refine wpList_app _ rfl (.tmp 29) (.tmp 34) _ rfl w.heap.size _ i0 _ 1 24 Tryd.underlying22 hi hz0 hz1 hz2 rfl ?a1 (.slice A' ls.length c') ls.length vs rfl ?a2 (some ⟨w1.heap.size, 0, none⟩) 1 1 [.slice (some ⟨b, o + m * 3, none⟩) (m2 - m) (ct - m)] rfl ?a3 ?a4 ?a5 ?a6 ?a7)
      case a1 => omega
      case a2 => exact hrow1.out.alloc _
      case a3 => exact Src.slice1 hcc rfl
      case a4 => simp only [maxLen]; omega
      case a5 => omega
      case a6 => rw [World.size_alloc]; have := hB1.size; omega
      case a7 =>
        intro v2 w2 hown2 hg2 hat2
        obtain ⟨A2, c2, rfl⟩ := row_slice hown2
        have hB2 : Below w.heap.size w w2 := (below_alloc' hB1 _).grown hg2 (below_alloc' hB1 _).size (fun q hq => row_base hrow1.out q hq)
        have HE2 := Lib.hid (show Each (fun A c l => l.length ≤ c ∧ Reads w A l ∧ ∃ o', A = some ⟨b, o', none⟩) (vs ++ [.slice (some ⟨b, o + m * 3, none⟩) (m2 - m) (ct - m)]) (ls ++ [part]) from by
          have := hE.out.snoc (A := some ⟨b, o + m * 3, none⟩) (c := ct - m) (l := part) ⟨by omega, HRP.out, _, rfl⟩
          rw [g4] at this
          exact this)
        have HO2 := Lib.hid (show w2.ownsRow w.heap.size 35 1 (.slice A2 (ls ++ [part]).length c2) (ls ++ [part]).length (vs ++ [.slice (some ⟨b, o + m * 3, none⟩) (m2 - m) (ct - m)]) by simpa using hown2)
        clear hown2 hat2 hcc hE hg2
        go_wp2
        go_roundw
        case rel => exact ⟨m2, k2, j + 1, A2, c2, _, ls ++ [part], by omega, g2, by simp; omega, by omega, by go_num, rfl, by simp, HO2, HE2, hB2, W2, E2⟩
        case measure => simp [intOf]; omega
    · have hk : k = 0 := by omega
      subst hk
      have hs2 : ls = partsE t := by rw [← hS.out]; simp [partsK]
      subst hs2
      have HF := Lib.hid (show SlsB w0 w.heap.size A' c' b (partsE t) from ⟨vs, row_below hrow.out hb0, hE.out.mono fun _ _ _ p => ⟨p.1, p.2.1.below hB0, p.2.2⟩⟩)
      clear hW hS hrow hE hb0
      go_wp2
      go_ret
      exact ⟨A', c', b, o, rfl, rfl, HF.out, hB0⟩
theorem wparts_any (t : List CellD) (B : Option Addr) (ct : Nat) (w : World) (ht : Reads w B t) (hct : t.length ≤ ct) (et : (rightE t).1 = 0) :
    Calls Tryd.prog 56 #[.slice B t.length ct] w fun e w' => ∃ A' c', e = .returned (.slice A' (partsE t).length c') ∧ SlsAt w' w.heap.size A' c' (partsE t) ∧ Below w.heap.size w w' :=
  (wpartsB_any t B ct w ht hct et).mono fun e w' ⟨A', c', b, o, _, he, hs, hB⟩ => ⟨A', c', he, hs.at_, hB⟩
end Go.Proofs.YtejcbpbhhofhlaaDoor.Tm
