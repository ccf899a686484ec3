/- PatX: several texts in one. -/
import Derived.Test.YtefpolgflimlgaaDoorBase
import Derived.Test.YtefpolgflimlgaaDoorMid
import Derived.Test.YtefpolgflimlgaaDoorGdB
/- Layer 8 as plain data: patterns, what they match. A pattern's cell has a cell's fields. -/
namespace Go.Proofs.YtefpolgflimlgaaDoor.Tm
set_option linter.unusedVariables false
set_option linter.unusedSimpArgs false

def holeB (k : Int) : Bool := decide (k = 11) || (decide (k = 12) || decide (k = 13))
/-- What is wrong of a pattern's cell alone. -/
def patE (c : CellD) : Int :=
  if holeB c.kind = true then (if c.text.size ≠ 0 ∨ (c.kind = 11 ∧ c.n ≠ 0) then 3 else if c.n < 0 ∨ 16 ≤ c.n then 1 else 0) else cellE c
def boundB (p : List CellD) (n : Int) : Bool := p.any fun c => decide (c.kind = 12) && decide (c.n = n)
/-- The loop of Right: what has been gone through, what is left. -/
def prightL : List CellD → List CellD → Int → Int × Int
  | pre, [], o => if o > 0 then (62, pre.length) else (0, 0)
  | pre, c :: l, o => if patE c ≠ 0 then (patE c, pre.length) else if c.kind = 12 ∧ boundB pre c.n = true then (6, pre.length) else if o = 0 then (63, pre.length) else prightL (pre ++ [c]) l (o - 1 + kidsD c)
def prightE (p : List CellD) : Int × Int := if p.length = 0 then (5, 0) else if 256 < p.length then (7, 0) else prightL [] p 1
/-- The registers that cells of a kind name. -/
def namedB (p : List CellD) (k : Int) (n : Int) : Bool := p.any fun c => decide (c.kind = k) && decide (c.n = n)
def namedD (p : List CellD) (k : Int) : List Int := ((List.range 16).filter fun n => namedB p k (n : Nat)).map fun n => ((n : Nat) : Int)

/-! so many terms (or patterns) ahead of a list -/
def spanK : List CellD → Nat → Nat
  | _, 0 => 0
  | [], _ + 1 => 0
  | c :: l, k + 1 => 1 + spanK l (k + kidsD c)
def skipK (l : List CellD) (k : Nat) : List CellD := l.drop (spanK l k)
def hasK : List CellD → Nat → Prop
  | _, 0 => True
  | [], _ + 1 => False
  | c :: l, k + 1 => hasK l (k + kidsD c)
theorem spanK_zero (l : List CellD) : spanK l 0 = 0 := by cases l <;> rfl
theorem skipK_zero (l : List CellD) : skipK l 0 = l := by rw [skipK, spanK_zero]; rfl
theorem skipK_cons (c : CellD) (l : List CellD) (k : Nat) : skipK (c :: l) (k + 1) = skipK l (k + kidsD c) := by
  unfold skipK
  rw [show spanK (c :: l) (k + 1) = 1 + spanK l (k + kidsD c) from rfl, Nat.add_comm, List.drop_succ_cons]
theorem span_le : ∀ (l : List CellD) (k : Nat), spanK l k ≤ l.length
  | l, 0 => by rw [spanK_zero]; omega
  | [], k + 1 => Nat.le_refl _
  | c :: l, k + 1 => by
    have := span_le l (k + kidsD c)
    show 1 + spanK l (k + kidsD c) ≤ l.length + 1
    omega
theorem hasK_zero (l : List CellD) : hasK l 0 := by cases l <;> trivial
theorem endL_has : ∀ (l : List CellD) (i k : Nat), hasK l (k + 1) → endL l i (k + 1) = (((i + spanK l (k + 1) : Nat) : Int), 0)
  | [], i, k, h => h.elim
  | c :: l, i, k, h => by
    have h' : hasK l (k + kidsD c) := h
    unfold endL
    show (if ((k : Int) + 1) - 1 + kidsD c = 0 then _ else _) = (((i + (1 + spanK l (k + kidsD c)) : Nat) : Int), 0)
    rcases Nat.eq_zero_or_pos (k + kidsD c) with e | e
    · rw [if_pos (by omega), e, spanK_zero]; simp
    · rw [if_neg (by omega)]
      obtain ⟨m, hm⟩ : ∃ m, k + kidsD c = m + 1 := ⟨k + kidsD c - 1, by omega⟩
      rw [hm] at h' ⊢
      have := endL_has l (i + 1) m h'
      rw [show (k : Int) + 1 - 1 + kidsD c = (m : Int) + 1 by omega, this]
      congr 2; omega
/-- The open terms of a list close at its end. -/
def Wf : List CellD → Int → Prop
  | [], o => o = 0
  | c :: l, o => 0 < o ∧ Wf l (o - 1 + kidsD c)
def PGood : List CellD → Int → Prop
  | [], o => o = 0
  | c :: l, o => patE c = 0 ∧ 0 < o ∧ PGood l (o - 1 + kidsD c)
theorem Good.wf : ∀ {l : List CellD} {o : Int}, Good l o → Wf l o
  | [], o, h => h
  | c :: l, o, h => ⟨h.2.1, Good.wf h.2.2⟩
theorem PGood.wf : ∀ {l : List CellD} {o : Int}, PGood l o → Wf l o
  | [], o, h => h
  | c :: l, o, h => ⟨h.2.1, PGood.wf h.2.2⟩
theorem Wf.has : ∀ {l : List CellD} {o : Int} {k : Nat}, Wf l o → (k : Int) ≤ o → hasK l k
  | l, o, 0, h, e => hasK_zero l
  | [], o, k + 1, h, e => by have h0 : o = 0 := h; omega
  | c :: l, o, k + 1, h, e => Wf.has (l := l) (k := k + kidsD c) h.2 (by push_cast at e ⊢; omega)
theorem Wf.skip : ∀ {l : List CellD} {o : Int} {k : Nat}, Wf l o → (k : Int) ≤ o → Wf (skipK l k) (o - k)
  | l, o, 0, h, e => by rw [skipK_zero]; simpa using h
  | [], o, k + 1, h, e => by have h0 : o = 0 := h; omega
  | c :: l, o, k + 1, h, e => by
    have := Wf.skip (l := l) (k := k + kidsD c) h.2 (by push_cast at e ⊢; omega)
    rw [skipK_cons]
    rw [show o - ((k + 1 : Nat) : Int) = o - 1 + kidsD c - ((k + kidsD c : Nat) : Int) by push_cast; omega]
    exact this
theorem Wf.pos {l : List CellD} {o : Int} (h : Wf l o) (hl : l ≠ []) : 0 < o := by
  cases l with
  | nil => exact absurd rfl hl
  | cons c l => exact h.1
theorem Wf.nonneg : ∀ {l : List CellD} {o : Int}, Wf l o → 0 ≤ o
  | [], o, h => by have h0 : o = 0 := h; omega
  | c :: l, o, h => by have := h.1; omega
theorem Wf.ne {l : List CellD} {o : Int} (h : Wf l o) (ho : 0 < o) : l ≠ [] := fun e => by
  subst e
  have h0 : o = 0 := h
  omega
theorem skip_add : ∀ (l : List CellD) (a b : Nat), skipK (skipK l a) b = skipK l (a + b)
  | l, 0, b => by rw [skipK_zero, Nat.zero_add]
  | [], a + 1, b => by
    have e : ∀ k, skipK [] k = [] := fun k => by simp [skipK]
    rw [e, e, e]
  | c :: l, a + 1, b => by
    rw [skipK_cons, skip_add l (a + kidsD c) b, show a + 1 + b = (a + b) + 1 by omega, skipK_cons]
    congr 1; omega
/-- The place behind a term of a suffix. -/
theorem endE_suffix {l : List CellD} {j : Nat} {o : Int} (h : Wf (l.drop j) o) (ho : 0 < o) (hj : j < l.length) : endE l j = (((j + spanK (l.drop j) 1 : Nat) : Int), 0) ∧ j + spanK (l.drop j) 1 ≤ l.length ∧ j < j + spanK (l.drop j) 1 := by
  have hk : hasK (l.drop j) (0 + 1) := h.has (by omega)
  refine ⟨?_, ?_, ?_⟩
  · rw [endE, if_neg (by omega), Int.toNat_natCast]
    exact endL_has (l.drop j) j 0 hk
  · have := span_le (l.drop j) 1
    simp at this; omega
  · rw [List.drop_eq_getElem_cons hj]
    show j < j + (1 + spanK _ _)
    omega
theorem drop_span {l : List CellD} (j k : Nat) : l.drop (j + spanK (l.drop j) k) = skipK (l.drop j) k := by
  rw [skipK, List.drop_drop]
theorem take_span {l : List CellD} (j k : Nat) (h : j + spanK (l.drop j) k ≤ l.length) : (l.drop j).take (spanK (l.drop j) k) = (l.take (j + spanK (l.drop j) k)).drop j := by
  rw [List.drop_take]; congr 1; omega

/-! right patterns -/
theorem pgood_of : ∀ (l pre : List CellD) (o : Int), 0 ≤ o → (prightL pre l o).1 = 0 → PGood l o
  | [], pre, o, h, e => by
    unfold prightL at e
    split at e
    · cases e
    · show o = 0; omega
  | c :: l, pre, o, h, e => by
    unfold prightL at e
    split at e
    · rename_i hc; exact absurd e hc
    · split at e
      · cases e
      · split at e
        · cases e
        · exact ⟨by omega, by omega, pgood_of l _ _ (by omega) e⟩
theorem prightE_ok {p : List CellD} (h : (prightE p).1 = 0) : PGood p 1 ∧ p.length ≠ 0 ∧ p.length ≤ 256 := by
  unfold prightE at h
  split at h
  · cases h
  · split at h
    · cases h
    · exact ⟨pgood_of p [] 1 (by omega) h, by omega, by omega⟩
theorem PGood.all : ∀ {p : List CellD} {o : Int}, PGood p o → ∀ c ∈ p, patE c = 0
  | [], o, h, c, hc => by cases hc
  | d :: p, o, h, c, hc => by
    rcases List.mem_cons.1 hc with rfl | hc
    · exact h.1
    · exact PGood.all h.2.2 c hc
theorem Good.all : ∀ {p : List CellD} {o : Int}, Good p o → ∀ c ∈ p, cellE c = 0
  | [], o, h, c, hc => by cases hc
  | d :: p, o, h, c, hc => by
    rcases List.mem_cons.1 hc with rfl | hc
    · exact h.1
    · exact Good.all h.2.2 c hc
theorem hole_reg {c : CellD} (h : patE c = 0) (k : holeB c.kind = true) : 0 ≤ c.n ∧ c.n < 16 := by
  rw [patE, if_pos k] at h
  split at h
  · cases h
  · split at h
    · cases h
    · omega
theorem cellE_kind {c : CellD} (h : cellE c = 0) : 1 ≤ c.kind ∧ c.kind ≤ 8 := by
  unfold cellE at h
  split at h
  · cases h
  · omega
theorem hole_of {k : Int} (h : holeB k = true) : k = 11 ∨ k = 12 ∨ k = 13 := by simpa [holeB] using h
theorem hole_kids {c : CellD} (h : holeB c.kind = true) : kidsD c = 0 := by
  rcases hole_of h with e | e | e <;> simp [kidsD, e]
theorem cell_no_hole {c : CellD} (h : cellE c = 0) : holeB c.kind = false := by
  have := cellE_kind h
  simp [holeB]; omega
theorem patE_cell {c : CellD} (h : cellE c = 0) : patE c = 0 := by rw [patE, if_neg (by simp [cell_no_hole h]), h]

/-! matching -/
def wrong8 (x : List (List CellD)) : Int := if 16 < x.length then 1 else regsE x
def regs16 (x : List (List CellD)) : List (List CellD) := (List.range 16).map fun n => regD x ((n : Nat) : Int)
def asksSet (p : List CellD) (x : List (List CellD)) : Bool := p.all fun c => !(decide (c.kind = 13) && (regD x c.n).isEmpty)
def fitsL : List CellD → List CellD → List (List CellD) → List (List CellD) → Option (List (List CellD))
  | [], _, _, out => some out
  | c :: p, t, x, out =>
    if holeB c.kind = true then
      (if c.kind = 13 ∧ t.take (spanK t 1) ≠ regD x c.n then none
       else fitsL p (skipK t 1) x (if c.kind = 12 then out.set c.n.toNat (t.take (spanK t 1)) else out))
    else if t.head? = some c then fitsL p t.tail x out else none
def matchE (p t : List CellD) (x : List (List CellD)) : List (List CellD) × Bool × Int :=
  if (prightE p).1 ≠ 0 then ([], false, (prightE p).1) else if (rightE t).1 ≠ 0 then ([], false, (rightE t).1) else if wrong8 x ≠ 0 then ([], false, wrong8 x)
  else if asksSet p x = false then ([], false, 5)
  else match fitsL p t x (regs16 x) with
    | none => ([], false, 0)
    | some out => (out, true, 0)
def coversL : List CellD → List CellD → Bool
  | [], _ => true
  | c :: p, q => if c.kind = 11 ∨ c.kind = 12 then coversL p (skipK q 1) else if q.head? = some c then coversL p q.tail else false
def coversE (p q : List CellD) : Bool × Int := if (prightE p).1 ≠ 0 then (false, (prightE p).1) else if (prightE q).1 ≠ 0 then (false, (prightE q).1) else (coversL p q, 0)
def ofTermE (t : List CellD) : List CellD × Int := if (rightE t).1 ≠ 0 then ([], (rightE t).1) else if 256 < t.length then ([], 7) else (t, 0)
/-- What a pattern's cell puts into a term. -/
def putD (x : List (List CellD)) (c : CellD) : List CellD := if holeB c.kind = true then regD x c.n else [c]
def toTermE (p : List CellD) (x : List (List CellD)) : List CellD × Int :=
  if (prightE p).1 ≠ 0 then ([], (prightE p).1) else if wrong8 x ≠ 0 then ([], wrong8 x) else if (p.any fun c => decide (c.kind = 11)) = true then ([], 3)
  else if (p.any fun c => holeB c.kind && (regD x c.n).isEmpty) = true then ([], 5)
  else if 1024 < (p.flatMap (putD x)).length then ([], 7) else (p.flatMap (putD x), 0)
end Go.Proofs.YtefpolgflimlgaaDoor.Tm
/- Layer 8's laws over plain lists: covering, matching, what is bound. -/
namespace Go.Proofs.YtefpolgflimlgaaDoor.Tm
set_option linter.unusedVariables false
set_option linter.unusedSimpArgs false

theorem any_hole {k : Int} (h : k = 11 ∨ k = 12) : holeB k = true := by rcases h with rfl | rfl <;> rfl
theorem any_kids {c : CellD} (h : c.kind = 11 ∨ c.kind = 12) : kidsD c = 0 := hole_kids (any_hole h)
theorem cov_any {c : CellD} {p q : List CellD} (h : c.kind = 11 ∨ c.kind = 12) : coversL (c :: p) q = coversL p (skipK q 1) := by rw [coversL, if_pos h]
theorem cov_cell {c : CellD} {p q : List CellD} (h : ¬ (c.kind = 11 ∨ c.kind = 12)) (e : coversL (c :: p) q = true) : ∃ q', q = c :: q' ∧ coversL p q' = true := by
  rw [coversL, if_neg h] at e
  split at e
  · rename_i hh
    cases q with
    | nil => cases hh
    | cons d q' =>
      simp at hh
      subst hh
      exact ⟨q', rfl, e⟩
  · cases e
theorem cov_cons {c : CellD} {p q : List CellD} (h : ¬ (c.kind = 11 ∨ c.kind = 12)) : coversL (c :: p) (c :: q) = coversL p q := by
  rw [coversL, if_neg h]; simp
theorem skip_nil (k : Nat) : skipK [] k = [] := by simp [skipK]
theorem cov_skip : ∀ (q r : List CellD) (k : Nat) (o : Int), Wf q o → Wf r o → (k : Int) ≤ o → coversL q r = true → coversL (skipK q k) (skipK r k) = true
  | q, r, 0, o, hq, hr, hk, e => by rw [skipK_zero, skipK_zero]; exact e
  | [], r, k + 1, o, hq, hr, hk, e => by have h0 : o = 0 := hq; omega
  | c :: q, r, k + 1, o, hq, hr, hk, e => by
    rw [skipK_cons]
    by_cases h : c.kind = 11 ∨ c.kind = 12
    · rw [cov_any h] at e
      have hk0 := any_kids h
      have hw := hr.skip (k := 1) (by omega)
      have hq2 := hq.2
      rw [hk0] at hq2 ⊢
      have := cov_skip q (skipK r 1) k (o - 1) (by simpa using hq2) (by simpa using hw) (by omega) e
      rw [skip_add, Nat.add_comm] at this
      simpa using this
    · obtain ⟨r', rfl, e'⟩ := cov_cell h e
      rw [skipK_cons]
      exact cov_skip q r' (k + kidsD c) _ hq.2 hr.2 (by push_cast at hk ⊢; omega) e'
theorem cov_trans : ∀ (p q r : List CellD) (o : Int), Wf p o → Wf q o → Wf r o → coversL p q = true → coversL q r = true → coversL p r = true
  | [], q, r, o, hp, hq, hr, e, f => rfl
  | c :: p, q, r, o, hp, hq, hr, e, f => by
    have ho := hp.1
    by_cases h : c.kind = 11 ∨ c.kind = 12
    · rw [cov_any h] at e ⊢
      have hk0 := any_kids h
      have hp2 := hp.2
      rw [hk0] at hp2
      exact cov_trans p (skipK q 1) (skipK r 1) (o - 1) (by simpa using hp2) (by simpa using hq.skip (k := 1) (by omega)) (by simpa using hr.skip (k := 1) (by omega)) e (cov_skip q r 1 o hq hr (by omega) f)
    · obtain ⟨q', rfl, e'⟩ := cov_cell h e
      obtain ⟨r', rfl, f'⟩ := cov_cell h f
      rw [cov_cons h]
      exact cov_trans p q' r' _ hp.2 hq.2 hr.2 e' f'
theorem cov_self : ∀ (p : List CellD), coversL p p = true
  | [] => rfl
  | c :: p => by
    by_cases h : c.kind = 11 ∨ c.kind = 12
    · rw [cov_any h, skipK_cons, any_kids h, skipK_zero]; exact cov_self p
    · rw [cov_cons h]; exact cov_self p
theorem cov_mem : ∀ (p q : List CellD), coversL p q = true → ∀ c ∈ p, ¬ (c.kind = 11 ∨ c.kind = 12) → c ∈ q
  | [], q, e, c, hc, h => by cases hc
  | d :: p, q, e, c, hc, h => by
    by_cases hd : d.kind = 11 ∨ d.kind = 12
    · rw [cov_any hd] at e
      rcases List.mem_cons.1 hc with rfl | hc
      · exact absurd hd h
      · exact List.mem_of_mem_drop (cov_mem p _ e c hc h)
    · obtain ⟨q', rfl, e'⟩ := cov_cell hd e
      rcases List.mem_cons.1 hc with rfl | hc
      · simp
      · exact List.mem_cons_of_mem _ (cov_mem p q' e' c hc h)

/-- Does a pattern match? -/
def fitB : List CellD → List CellD → List (List CellD) → Bool
  | [], _, _ => true
  | c :: p, t, x => if holeB c.kind = true then (if c.kind = 13 ∧ t.take (spanK t 1) ≠ regD x c.n then false else fitB p (skipK t 1) x) else if t.head? = some c then fitB p t.tail x else false
theorem fits_some : ∀ (p t : List CellD) (x out : List (List CellD)), (fitsL p t x out).isSome = fitB p t x
  | [], t, x, out => rfl
  | c :: p, t, x, out => by
    unfold fitsL fitB
    split
    · split
      · rfl
      · exact fits_some p _ x _
    · split
      · exact fits_some p _ x _
      · rfl
theorem fit_hole {c : CellD} {p t : List CellD} {x : List (List CellD)} (h : holeB c.kind = true) (e : fitB (c :: p) t x = true) : fitB p (skipK t 1) x = true ∧ (c.kind = 13 → t.take (spanK t 1) = regD x c.n) := by
  rw [fitB, if_pos h] at e
  split at e
  · cases e
  · rename_i hn
    exact ⟨e, fun k => Decidable.byContradiction fun n => hn ⟨k, n⟩⟩
theorem fit_hole_mk {c : CellD} {p t : List CellD} {x : List (List CellD)} (h : holeB c.kind = true) (k : c.kind = 13 → t.take (spanK t 1) = regD x c.n) : fitB (c :: p) t x = fitB p (skipK t 1) x := by
  rw [fitB, if_pos h, if_neg (fun e => e.2 (k e.1))]
theorem fit_cell {c : CellD} {p t : List CellD} {x : List (List CellD)} (h : holeB c.kind = false) (e : fitB (c :: p) t x = true) : ∃ t', t = c :: t' ∧ fitB p t' x = true := by
  rw [fitB, if_neg (by simp [h])] at e
  split at e
  · rename_i hh
    cases t with
    | nil => cases hh
    | cons d t' =>
      simp at hh
      subst hh
      exact ⟨t', rfl, e⟩
  · cases e
theorem fit_cons {c : CellD} {p t : List CellD} {x : List (List CellD)} (h : holeB c.kind = false) : fitB (c :: p) (c :: t) x = fitB p t x := by
  rw [fitB, if_neg (by simp [h])]; simp
theorem fit_skip : ∀ (q t : List CellD) (x : List (List CellD)) (k : Nat) (o : Int), Wf q o → Wf t o → (k : Int) ≤ o → fitB q t x = true → fitB (skipK q k) (skipK t k) x = true
  | q, t, x, 0, o, hq, ht, hk, e => by rw [skipK_zero, skipK_zero]; exact e
  | [], t, x, k + 1, o, hq, ht, hk, e => by have h0 : o = 0 := hq; omega
  | c :: q, t, x, k + 1, o, hq, ht, hk, e => by
    rw [skipK_cons]
    cases h : holeB c.kind
    · obtain ⟨t', rfl, e'⟩ := fit_cell h e
      rw [skipK_cons]
      exact fit_skip q t' x (k + kidsD c) _ hq.2 ht.2 (by push_cast at hk ⊢; omega) e'
    · have e' := (fit_hole h e).1
      have hk0 := hole_kids h
      have hw := ht.skip (k := 1) (by omega)
      have hq2 := hq.2
      rw [hk0] at hq2 ⊢
      have := fit_skip q (skipK t 1) x k (o - 1) (by simpa using hq2) (by simpa using hw) (by omega) e'
      rw [skip_add, Nat.add_comm] at this
      simpa using this
theorem cov_fit : ∀ (p q t : List CellD) (x : List (List CellD)) (o : Int), Wf p o → Wf q o → Wf t o → coversL p q = true → fitB q t x = true → fitB p t x = true
  | [], q, t, x, o, hp, hq, ht, e, f => rfl
  | c :: p, q, t, x, o, hp, hq, ht, e, f => by
    have ho := hp.1
    by_cases h : c.kind = 11 ∨ c.kind = 12
    · rw [cov_any h] at e
      rw [fit_hole_mk (any_hole h) (fun k => by omega)]
      have hk0 := any_kids h
      have hp2 := hp.2
      rw [hk0] at hp2
      exact cov_fit p (skipK q 1) (skipK t 1) x (o - 1) (by simpa using hp2) (by simpa using hq.skip (k := 1) (by omega)) (by simpa using ht.skip (k := 1) (by omega)) e (fit_skip q t x 1 o hq ht (by omega) f)
    · obtain ⟨q', rfl, e'⟩ := cov_cell h e
      cases hh : holeB c.kind
      · obtain ⟨t', rfl, f'⟩ := fit_cell hh f
        rw [fit_cons hh]
        exact cov_fit p q' t' x _ hp.2 hq.2 ht.2 e' f'
      · obtain ⟨f1, f2⟩ := fit_hole hh f
        rw [fit_hole_mk hh f2]
        have hk0 := hole_kids hh
        have hp2 := hp.2
        have hq2 := hq.2
        rw [hk0] at hp2 hq2
        exact cov_fit p q' (skipK t 1) x (o - 1) (by simpa using hp2) (by simpa using hq2) (by simpa using ht.skip (k := 1) (by omega)) e' f1

theorem set_of_cov {p q : List CellD} {x : List (List CellD)} (e : coversL p q = true) (h : asksSet q x = true) : asksSet p x = true := by
  unfold asksSet at h ⊢
  rw [List.all_eq_true] at h ⊢
  intro c hc
  by_cases k : c.kind = 13
  · exact h c (cov_mem p q e c hc (by omega))
  · simp [k]
/-- When a match is one. -/
theorem match_ok {p t : List CellD} {x : List (List CellD)} : ((matchE p t x).2.1 = true ∧ (matchE p t x).2.2 = 0) ↔ ((prightE p).1 = 0 ∧ (rightE t).1 = 0 ∧ wrong8 x = 0 ∧ asksSet p x = true ∧ fitB p t x = true) := by
  unfold matchE
  have hf := fits_some p t x (regs16 x)
  by_cases h1 : (prightE p).1 = 0
  · by_cases h2 : (rightE t).1 = 0
    · by_cases h3 : wrong8 x = 0
      · cases h4 : asksSet p x
        · simp [h1, h2, h3]
        · rw [if_neg (by simp [h1]), if_neg (by simp [h2]), if_neg (by simp [h3]), if_neg (by simp)]
          cases h5 : fitsL p t x (regs16 x) with
          | none => rw [h5] at hf; simp [h1, h2, h3, ← hf]
          | some out => rw [h5] at hf; simp [h1, h2, h3, ← hf]
      · simp [h1, h2, h3]
    · simp [h1, h2]
  · simp [h1]
/-- The law of covering. -/
theorem covers_law {p q t : List CellD} {x : List (List CellD)} (e : (coversE p q).2 = 0) (a : (coversE p q).1 = true) (m : (matchE q t x).2.1 = true ∧ (matchE q t x).2.2 = 0) : (matchE p t x).2.1 = true ∧ (matchE p t x).2.2 = 0 := by
  obtain ⟨m1, m2, m3, m4, m5⟩ := match_ok.1 m
  unfold coversE at e a
  split at e
  · rename_i hc; exact absurd e hc
  · rename_i hp
    have hp : (prightE p).1 = 0 := by simpa using hp
    rw [if_neg (by simp [hp]), if_neg (by simp [m1])] at a
    exact match_ok.2 ⟨hp, m2, m3, set_of_cov a m4, cov_fit p q t x 1 (prightE_ok hp).1.wf (prightE_ok m1).1.wf (rightE_ok m2).1.wf a m5⟩
theorem covers_right {p q : List CellD} (e : (coversE p q).2 = 0) : (prightE p).1 = 0 ∧ (prightE q).1 = 0 := by
  unfold coversE at e
  split at e
  · rename_i hc; exact absurd e hc
  · split at e
    · rename_i hc; exact absurd e hc
    · rename_i h1 h2; exact ⟨by simpa using h1, by simpa using h2⟩
theorem covers_eq {p q : List CellD} (h : (prightE p).1 = 0) (k : (prightE q).1 = 0) : coversE p q = (coversL p q, 0) := by
  rw [coversE, if_neg (by simp [h]), if_neg (by simp [k])]
theorem covers_self {p : List CellD} (e : (coversE p p).2 = 0) : (coversE p p).1 = true := by
  obtain ⟨h, _⟩ := covers_right e
  rw [covers_eq h h]; exact cov_self p
theorem covers_on {p q r : List CellD} (e : (coversE p q).2 = 0) (f : (coversE q r).2 = 0) : (coversE p r).2 = 0 ∧ ((coversE p q).1 = true → (coversE q r).1 = true → (coversE p r).1 = true) := by
  obtain ⟨hp, hq⟩ := covers_right e
  obtain ⟨_, hr⟩ := covers_right f
  rw [covers_eq hp hq, covers_eq hq hr, covers_eq hp hr]
  exact ⟨rfl, fun a b => cov_trans p q r 1 (prightE_ok hp).1.wf (prightE_ok hq).1.wf (prightE_ok hr).1.wf a b⟩

/-! a term's own pattern -/
theorem pright_of_good : ∀ (t pre : List CellD) (o : Int), Good t o → prightL pre t o = (0, 0)
  | [], pre, o, g => by
    have h0 : o = 0 := g
    rw [prightL, if_neg (by omega)]
  | c :: t, pre, o, g => by
    have hk := cellE_kind g.1
    rw [prightL, if_neg (by simp [patE_cell g.1]), if_neg (fun e => by omega), if_neg (by have := g.2.1; omega)]
    exact pright_of_good t _ _ g.2.2
theorem pright_of_term {t : List CellD} (h : (rightE t).1 = 0) (k : t.length ≤ 256) : prightE t = (0, 0) := by
  obtain ⟨g, h0, _⟩ := rightE_ok h
  rw [prightE, if_neg h0, if_neg (by omega)]
  exact pright_of_good t [] 1 g
theorem fit_term : ∀ (t u : List CellD) (x : List (List CellD)) (o : Int), Good t o → Wf u o → (fitB t u x = true ↔ t = u)
  | [], u, x, o, g, hu => by
    have h0 : o = 0 := g
    cases u with
    | nil => simp [fitB]
    | cons d u => have := hu.1; omega
  | c :: t, u, x, o, g, hu => by
    have hh := cell_no_hole g.1
    constructor
    · intro e
      obtain ⟨u', rfl, e'⟩ := fit_cell hh e
      rw [(fit_term t u' x _ g.2.2 hu.2).1 e']
    · rintro rfl
      rw [fit_cons hh]
      exact (fit_term t t x _ g.2.2 hu.2).2 rfl
theorem fits_term : ∀ (t u : List CellD) (x out : List (List CellD)) (o : Int), Good t o → fitB t u x = true → fitsL t u x out = some out
  | [], u, x, out, o, g, e => rfl
  | c :: t, u, x, out, o, g, e => by
    have hh := cell_no_hole g.1
    obtain ⟨u', rfl, e'⟩ := fit_cell hh e
    rw [fitsL, if_neg (by simp [hh]), List.head?_cons, if_pos rfl]
    exact fits_term t u' x out _ g.2.2 e'
theorem term_set {t : List CellD} {o : Int} (g : Good t o) (x : List (List CellD)) : asksSet t x = true := by
  unfold asksSet
  rw [List.all_eq_true]
  intro c hc
  have := cellE_kind (g.all c hc)
  have : c.kind ≠ 13 := by omega
  simp [this]
theorem term_named {t : List CellD} {o : Int} (g : Good t o) : namedD t 12 = [] := by
  unfold namedD
  rw [List.map_eq_nil_iff, List.filter_eq_nil_iff]
  intro n _ e
  simp only [namedB, List.any_eq_true] at e
  obtain ⟨c, hc, e2⟩ := e
  have := cellE_kind (g.all c hc)
  simp at e2
  omega
/-- The law of a term's own pattern. -/
theorem only_law {t u : List CellD} {x : List (List CellD)} (e : (ofTermE t).2 = 0) (hu : (rightE u).1 = 0) (hx : wrong8 x = 0) :
    (ofTermE t).1 = t ∧ matchE t u x = (if t = u then (regs16 x, true, 0) else ([], false, 0)) ∧ namedD t 12 = [] := by
  unfold ofTermE at e
  split at e
  · rename_i hc; exact absurd e hc
  · split at e
    · cases e
    · rename_i h1 h2
      have h1 : (rightE t).1 = 0 := by simpa using h1
      obtain ⟨g, _, _⟩ := rightE_ok h1
      refine ⟨by rw [ofTermE, if_neg (by simp [h1]), if_neg h2], ?_, term_named g⟩
      have hp := pright_of_term h1 (by omega)
      rw [matchE, if_neg (by simp [hp]), if_neg (by simp [hu]), if_neg (by simp [hx]), if_neg (by simp [term_set g])]
      by_cases htu : t = u
      · have hf := (fit_term t u x 1 g (rightE_ok hu).1.wf).2 htu
        rw [fits_term t u x (regs16 x) 1 g hf, if_pos htu]
      · have hf : fitB t u x = false := by
          cases e : fitB t u x
          · rfl
          · exact absurd ((fit_term t u x 1 g (rightE_ok hu).1.wf).1 e) htu
        rw [if_neg htu]
        have := fits_some t u x (regs16 x)
        rw [hf] at this
        cases e2 : fitsL t u x (regs16 x) with
        | none => rfl
        | some o => rw [e2] at this; cases this
end Go.Proofs.YtefpolgflimlgaaDoor.Tm
/- Layer 8's laws over plain lists: what a match has bound. -/
namespace Go.Proofs.YtefpolgflimlgaaDoor.Tm
set_option linter.unusedVariables false
set_option linter.unusedSimpArgs false

theorem regD_nat {o : List (List CellD)} {n : Int} (h : 0 ≤ n) : regD o n = o.getD n.toNat [] := by rw [regD, if_neg (by omega)]
theorem regD_set_same {o : List (List CellD)} {n : Int} (h0 : 0 ≤ n) (h1 : n.toNat < o.length) (v : List CellD) : regD (o.set n.toNat v) n = v := by
  rw [regD_nat h0, List.getD_eq_getElem?_getD, List.getElem?_set_self h1]; rfl
theorem regD_set_other {o : List (List CellD)} {m n : Int} (h0 : 0 ≤ n) (hm : 0 ≤ m) (hne : m ≠ n) (v : List CellD) : regD (o.set m.toNat v) n = regD o n := by
  rw [regD_nat h0, regD_nat h0, List.getD_eq_getElem?_getD, List.getD_eq_getElem?_getD, List.getElem?_set_ne (by omega)]
theorem regs16_len (x : List (List CellD)) : (regs16 x).length = 16 := by simp [regs16]
theorem regD_regs16 {x : List (List CellD)} {n : Int} (h0 : 0 ≤ n) (h1 : n < 16) : regD (regs16 x) n = regD x n := by
  rw [regD_nat h0, List.getD_eq_getElem?_getD, List.getElem?_eq_getElem (by rw [regs16_len]; omega)]
  simp only [regs16, List.getElem_map, List.getElem_range, Option.getD_some]
  rw [Int.toNat_of_nonneg h0]
theorem bound_cons {c : CellD} {p : List CellD} {n : Int} (h : boundB (c :: p) n = false) : boundB p n = false ∧ (c.kind = 12 → c.n ≠ n) := by
  simp only [boundB, List.any_cons, Bool.or_eq_false_iff] at h
  refine ⟨h.2, fun k e => ?_⟩
  have := h.1
  simp [k, e] at this
theorem fits_step {c : CellD} {p t : List CellD} {x o out : List (List CellD)} (h : fitsL (c :: p) t x o = some out) :
    (holeB c.kind = true ∧ (c.kind = 13 → t.take (spanK t 1) = regD x c.n) ∧ fitsL p (skipK t 1) x (if c.kind = 12 then o.set c.n.toNat (t.take (spanK t 1)) else o) = some out) ∨
    (holeB c.kind = false ∧ ∃ t', t = c :: t' ∧ fitsL p t' x o = some out) := by
  rw [fitsL] at h
  split at h
  · rename_i hh
    split at h
    · cases h
    · rename_i hn
      exact .inl ⟨hh, fun k => Decidable.byContradiction fun n => hn ⟨k, n⟩, h⟩
  · rename_i hh
    have hh : holeB c.kind = false := by simpa using hh
    split at h
    · rename_i h2
      cases t with
      | nil => cases h2
      | cons d t' =>
        simp at h2
        subst h2
        exact .inr ⟨hh, t', rfl, h⟩
    · cases h
theorem fits_len : ∀ (p t : List CellD) (x o out : List (List CellD)), fitsL p t x o = some out → out.length = o.length
  | [], t, x, o, out, h => by rw [fitsL] at h; injection h with h; rw [h]
  | c :: p, t, x, o, out, h => by
    rcases fits_step h with ⟨_, _, h⟩ | ⟨_, t', _, h⟩
    · rw [fits_len p _ x _ out h]; split <;> simp
    · exact fits_len p _ x _ out h
theorem fits_unbound : ∀ (p t : List CellD) (x o out : List (List CellD)) (n : Int), fitsL p t x o = some out → (∀ c ∈ p, patE c = 0) → 0 ≤ n → boundB p n = false → regD out n = regD o n
  | [], t, x, o, out, n, h, hp, h0, hb => by rw [fitsL] at h; injection h with h; rw [h]
  | c :: p, t, x, o, out, n, h, hp, h0, hb => by
    obtain ⟨b1, b2⟩ := bound_cons hb
    rcases fits_step h with ⟨hh, _, h⟩ | ⟨_, t', _, h⟩
    · rw [fits_unbound p _ x _ out n h (fun d hd => hp d (List.mem_cons_of_mem _ hd)) h0 b1]
      split
      · rename_i k
        exact regD_set_other h0 (hole_reg (hp c (by simp)) hh).1 (b2 k) _
      · rfl
    · exact fits_unbound p _ x _ out n h (fun d hd => hp d (List.mem_cons_of_mem _ hd)) h0 b1
theorem fits_same : ∀ (p t : List CellD) (x x' o o' a b : List (List CellD)) (n : Int), fitsL p t x o = some a → fitsL p t x' o' = some b → (∀ c ∈ p, patE c = 0) → o.length = 16 → o'.length = 16 → 0 ≤ n →
    (boundB p n = true ∨ regD o n = regD o' n) → regD a n = regD b n
  | [], t, x, x', o, o', a, b, n, h, k, hp, l, l', h0, hb => by
    rw [fitsL] at h k
    injection h with h
    injection k with k
    subst h k
    rcases hb with hb | hb
    · cases hb
    · exact hb
  | c :: p, t, x, x', o, o', a, b, n, h, k, hp, l, l', h0, hb => by
    have hp' : ∀ d ∈ p, patE d = 0 := fun d hd => hp d (List.mem_cons_of_mem _ hd)
    rcases fits_step h with ⟨hh, _, h⟩ | ⟨hh, t', e, h⟩
    · rcases fits_step k with ⟨_, _, k⟩ | ⟨hh', _⟩
      · have hr := hole_reg (hp c (by simp)) hh
        refine fits_same p _ x x' _ _ a b n h k hp' (by split <;> simp [l]) (by split <;> simp [l']) h0 ?_
        by_cases k12 : c.kind = 12
        · rw [if_pos k12, if_pos k12]
          by_cases hn : c.n = n
          · right
            subst hn
            rw [regD_set_same hr.1 (by omega), regD_set_same hr.1 (by omega)]
          · rw [regD_set_other h0 hr.1 hn, regD_set_other h0 hr.1 hn]
            rcases hb with hb | hb
            · left
              simp only [boundB, List.any_cons, Bool.or_eq_true] at hb
              rcases hb with hb | hb
              · simp at hb; exact absurd hb.2 hn
              · exact hb
            · exact .inr hb
        · rw [if_neg k12, if_neg k12]
          rcases hb with hb | hb
          · left
            simp only [boundB, List.any_cons, Bool.or_eq_true] at hb
            rcases hb with hb | hb
            · simp at hb; exact absurd hb.1 k12
            · exact hb
          · exact .inr hb
      · rw [hh] at hh'; cases hh'
    · rcases fits_step k with ⟨hh', _⟩ | ⟨_, t2, e2, k⟩
      · rw [hh] at hh'; cases hh'
      · rw [e] at e2
        injection e2 with _ e2
        subst e2
        refine fits_same p _ x x' _ _ a b n h k hp' l l' h0 ?_
        rcases hb with hb | hb
        · left
          simp only [boundB, List.any_cons, Bool.or_eq_true] at hb
          rcases hb with hb | hb
          · simp at hb
            rw [hb.1] at hh; cases hh
          · exact hb
        · exact .inr hb
/-- No register is bound twice. -/
def distinctB : List CellD → Prop
  | [] => True
  | c :: p => (c.kind = 12 → boundB p c.n = false) ∧ distinctB p
theorem distinct_of : ∀ (l pre : List CellD) (o : Int), (prightL pre l o).1 = 0 → distinctB l ∧ ∀ d ∈ l, d.kind = 12 → boundB pre d.n = false
  | [], pre, o, e => ⟨trivial, fun d hd => by cases hd⟩
  | c :: l, pre, o, e => by
    unfold prightL at e
    split at e
    · rename_i hc; exact absurd e hc
    · split at e
      · cases e
      · rename_i h1 h2
        split at e
        · cases e
        · obtain ⟨i1, i2⟩ := distinct_of l (pre ++ [c]) _ e
          have hc : c.kind = 12 → boundB pre c.n = false := fun k => by
            cases hb : boundB pre c.n
            · rfl
            · exact absurd ⟨k, hb⟩ h2
          have hd : ∀ d ∈ l, d.kind = 12 → boundB pre d.n = false ∧ (c.kind = 12 → c.n ≠ d.n) := fun d hd k => by
            have := i2 d hd k
            simp only [boundB, List.any_append, Bool.or_eq_false_iff] at this
            refine ⟨this.1, fun k2 e2 => ?_⟩
            have h3 := this.2
            simp [k2, e2] at h3
          refine ⟨⟨fun k => ?_, i1⟩, fun d hdm k => ?_⟩
          · cases hb : boundB l c.n
            · rfl
            · simp only [boundB, List.any_eq_true] at hb
              obtain ⟨d, hdm, e3⟩ := hb
              simp at e3
              exact absurd e3.2.symm ((hd d hdm e3.1).2 k)
          · rcases List.mem_cons.1 hdm with rfl | hdm
            · exact hc k
            · exact (hd d hdm k).1
theorem prightE_distinct {p : List CellD} (h : (prightE p).1 = 0) : distinctB p := by
  unfold prightE at h
  split at h
  · cases h
  · split at h
    · cases h
    · exact (distinct_of p [] 1 h).1
theorem part_ne {t : List CellD} (h : t ≠ []) : t.take (spanK t 1) ≠ [] := by
  cases t with
  | nil => exact absurd rfl h
  | cons c t => simp [spanK, Nat.add_comm 1]
theorem fits_put : ∀ (p t : List CellD) (x o out : List (List CellD)) (k : Int), fitsL p t x o = some out → PGood p k → Wf t k → distinctB p → o.length = 16 → (∀ c ∈ p, c.kind ≠ 11) →
    (∀ c ∈ p, c.kind = 13 → boundB p c.n = false ∧ regD o c.n = regD x c.n) → p.flatMap (putD out) = t ∧ ∀ c ∈ p, holeB c.kind = true → regD out c.n ≠ []
  | [], t, x, o, out, k, h, hg, ht, hd, hl, h11, h13 => by
    have h0 : k = 0 := hg
    cases t with
    | nil => exact ⟨rfl, fun c hc => by cases hc⟩
    | cons d t => have := ht.1; omega
  | c :: p, t, x, o, out, k, h, hg, ht, hd, hl, h11, h13 => by
    have hp' : ∀ d ∈ p, patE d = 0 := hg.2.2.all
    have h11' : ∀ d ∈ p, d.kind ≠ 11 := fun d hd => h11 d (List.mem_cons_of_mem _ hd)
    rcases fits_step h with ⟨hh, hs, h⟩ | ⟨hh, t', e, h2⟩
    · have hr := hole_reg hg.1 hh
      have hk0 := hole_kids hh
      have hg2 := hg.2.2
      rw [hk0] at hg2
      have htw := ht.skip (k := 1) (by have := hg.2.1; omega)
      have hne := ht.ne hg.2.1
      rcases hole_of hh with e | k12 | k13
      · exact absurd e (h11 c (by simp))
      · rw [if_pos k12] at h
        have hb := hd.1 k12
        obtain ⟨i1, i2⟩ := fits_put p (skipK t 1) x _ out (k - 1) h (by simpa using hg2) (by simpa using htw) hd.2 (by simp [hl]) h11' (fun d hdm kd => by
          obtain ⟨b1, b2⟩ := h13 d (List.mem_cons_of_mem _ hdm) kd
          obtain ⟨b3, b4⟩ := bound_cons b1
          refine ⟨b3, ?_⟩
          rw [regD_set_other (hole_reg (hp' d hdm) (by rw [kd]; rfl)).1 hr.1 (b4 k12)]
          exact b2)
        have ep : regD out c.n = t.take (spanK t 1) := by
          rw [fits_unbound p _ x _ out c.n h hp' hr.1 hb, regD_set_same hr.1 (by omega)]
        refine ⟨?_, fun d hdm hhd => ?_⟩
        · rw [List.flatMap_cons, i1, putD, if_pos hh, ep, skipK, List.take_append_drop]
        · rcases List.mem_cons.1 hdm with rfl | hdm
          · rw [ep]; exact part_ne hne
          · exact i2 d hdm hhd
      · rw [if_neg (by omega)] at h
        obtain ⟨b1, b2⟩ := h13 c (by simp) k13
        obtain ⟨i1, i2⟩ := fits_put p (skipK t 1) x _ out (k - 1) h (by simpa using hg2) (by simpa using htw) hd.2 hl h11' (fun d hdm kd => by
          obtain ⟨b1, b2⟩ := h13 d (List.mem_cons_of_mem _ hdm) kd
          exact ⟨(bound_cons b1).1, b2⟩)
        have ep : regD out c.n = t.take (spanK t 1) := by
          rw [fits_unbound p _ x _ out c.n h hp' hr.1 (bound_cons b1).1, b2, hs k13]
        refine ⟨?_, fun d hdm hhd => ?_⟩
        · rw [List.flatMap_cons, i1, putD, if_pos hh, ep, skipK, List.take_append_drop]
        · rcases List.mem_cons.1 hdm with rfl | hdm
          · rw [ep]; exact part_ne hne
          · exact i2 d hdm hhd
    · subst e
      obtain ⟨i1, i2⟩ := fits_put p t' x _ out _ h2 hg.2.2 ht.2 hd.2 hl h11' (fun d hdm kd => by
        obtain ⟨b1, b2⟩ := h13 d (List.mem_cons_of_mem _ hdm) kd
        exact ⟨(bound_cons b1).1, b2⟩)
      refine ⟨?_, fun d hdm hhd => ?_⟩
      · rw [List.flatMap_cons, i1, putD, if_neg (by simp [hh])]; rfl
      · rcases List.mem_cons.1 hdm with rfl | hdm
        · rw [hh] at hhd; cases hhd
        · exact i2 d hdm hhd

/-! a part of a right term is one -/
theorem good_take : ∀ (t : List CellD) (o : Int) (k : Nat), Good t o → (k : Int) ≤ o → Good (t.take (spanK t k)) k
  | t, o, 0, g, h => by rw [spanK_zero]; show (0 : Int) = 0; rfl
  | [], o, k + 1, g, h => by have h0 : o = 0 := g; omega
  | c :: t, o, k + 1, g, h => by
    have := good_take t _ (k + kidsD c) g.2.2 (by push_cast at h ⊢; omega)
    rw [show spanK (c :: t) (k + 1) = spanK t (k + kidsD c) + 1 by rw [spanK, Nat.add_comm], List.take_succ_cons]
    refine ⟨g.1, by omega, ?_⟩
    rw [show ((k + 1 : Nat) : Int) - 1 + kidsD c = ((k + kidsD c : Nat) : Int) by push_cast; omega]
    exact this
theorem rightL_good : ∀ (l : List CellD) (i : Nat) (o : Int), Good l o → rightL l i o = (0, 0)
  | [], i, o, g => by
    have h0 : o = 0 := g
    rw [rightL, if_neg (by omega)]
  | c :: l, i, o, g => by
    rw [rightL, if_neg (by simp [g.1]), if_neg (by have := g.2.1; omega)]
    exact rightL_good l _ _ g.2.2
theorem right_of_good {l : List CellD} (g : Good l 1) (h : l.length ≤ 1024) : (rightE l).1 = 0 := by
  have hn : l.length ≠ 0 := fun e => g.wf.ne (by omega) (List.eq_nil_of_length_eq_zero e)
  rw [rightE, if_neg hn, if_neg (by omega), rightL_good l 0 1 g]
theorem part_right {t : List CellD} {o : Int} (g : Good t o) (ho : 1 ≤ o) (h : t.length ≤ 1024) : (rightE (t.take (spanK t 1))).1 = 0 :=
  right_of_good (good_take t o 1 g ho) (by have := List.length_take_le (spanK t 1) t; have := List.length_take_le' (spanK t 1) t; omega)
theorem good_skip : ∀ (t : List CellD) (o : Int) (k : Nat), Good t o → (k : Int) ≤ o → Good (skipK t k) (o - k)
  | t, o, 0, g, h => by rw [skipK_zero]; simpa using g
  | [], o, k + 1, g, h => by have h0 : o = 0 := g; omega
  | c :: t, o, k + 1, g, h => by
    have := good_skip t _ (k + kidsD c) g.2.2 (by push_cast at h ⊢; omega)
    rw [skipK_cons]
    rw [show o - ((k + 1 : Nat) : Int) = o - 1 + kidsD c - ((k + kidsD c : Nat) : Int) by push_cast; omega]
    exact this
theorem fits_right : ∀ (p t : List CellD) (x o out : List (List CellD)) (k : Int), fitsL p t x o = some out → PGood p k → Good t k → t.length ≤ 1024 → (∀ l ∈ o, l ≠ [] → (rightE l).1 = 0) → ∀ l ∈ out, l ≠ [] → (rightE l).1 = 0
  | [], t, x, o, out, k, h, hg, ht, hl, ho => by rw [fitsL] at h; injection h with h; rw [← h]; exact ho
  | c :: p, t, x, o, out, k, h, hg, ht, hl, ho => by
    rcases fits_step h with ⟨hh, hs, h⟩ | ⟨hh, t', e, h2⟩
    · have hk0 := hole_kids hh
      have hg2 := hg.2.2
      rw [hk0] at hg2
      have hpos := hg.2.1
      refine fits_right p (skipK t 1) x _ out (k - 1) h (by simpa using hg2) (by simpa using good_skip t k 1 ht (by omega)) (by simp [skipK]; omega) ?_
      split
      · intro l hm hne
        rcases List.mem_or_eq_of_mem_set hm with hm | rfl
        · exact ho l hm hne
        · exact part_right ht (by omega) hl
      · exact ho
    · subst e
      exact fits_right p t' x _ out _ h2 hg.2.2 ht.2.2 (by simp at hl; omega) ho
theorem regs_of_right : ∀ (x : List (List CellD)), (∀ l ∈ x, l ≠ [] → (rightE l).1 = 0) → regsE x = 0
  | [], h => rfl
  | l :: x, h => by
    rw [regsE, if_neg (fun e => e.2 (h l (by simp) (by intro e2; rw [e2] at e; simp at e)))]
    exact regs_of_right x fun m hm => h m (List.mem_cons_of_mem _ hm)
theorem regD_right {x : List (List CellD)} (h : regsE x = 0) (n : Int) (hne : regD x n ≠ []) : (rightE (regD x n)).1 = 0 := by
  unfold regD at hne ⊢
  split at hne
  · exact absurd rfl hne
  · rename_i hn
    rw [if_neg hn]
    rw [List.getD_eq_getElem?_getD] at hne ⊢
    cases e : x[n.toNat]? with
    | none => rw [e] at hne; exact absurd rfl hne
    | some l =>
      rw [e] at hne
      obtain ⟨hn2, rfl⟩ := List.getElem?_eq_some_iff.1 e
      exact regs_ok h _ (List.getElem_mem hn2) hne
theorem wrong8_regs {x : List (List CellD)} (h : wrong8 x = 0) : x.length ≤ 16 ∧ regsE x = 0 := by
  unfold wrong8 at h
  split at h
  · cases h
  · exact ⟨by omega, h⟩
theorem regs16_right {x : List (List CellD)} (h : regsE x = 0) : ∀ l ∈ regs16 x, l ≠ [] → (rightE l).1 = 0 := by
  intro l hl hne
  simp only [regs16, List.mem_map, List.mem_range] at hl
  obtain ⟨n, _, rfl⟩ := hl
  exact regD_right h _ hne
theorem bound_named {p : List CellD} {n : Int} (h0 : 0 ≤ n) (h1 : n < 16) : n ∈ namedD p 12 ↔ boundB p n = true := by
  unfold namedD
  simp only [List.mem_map, List.mem_filter, List.mem_range]
  constructor
  · rintro ⟨m, ⟨h1, h2⟩, rfl⟩; exact h2
  · intro h
    refine ⟨n.toNat, ⟨by omega, ?_⟩, by omega⟩
    rw [Int.toNat_of_nonneg h0]; exact h
theorem match_some {p t : List CellD} {x : List (List CellD)} (m : (matchE p t x).2.1 = true ∧ (matchE p t x).2.2 = 0) : ∃ out, matchE p t x = (out, true, 0) ∧ fitsL p t x (regs16 x) = some out := by
  obtain ⟨m1, m2, m3, m4, m5⟩ := match_ok.1 m
  have hf := fits_some p t x (regs16 x)
  rw [m5] at hf
  obtain ⟨out, ho⟩ := Option.isSome_iff_exists.1 hf
  refine ⟨out, ?_, ho⟩
  rw [matchE, if_neg (by simp [m1]), if_neg (by simp [m2]), if_neg (by simp [m3]), if_neg (by simp [m4]), ho]
/-- The law of what is bound. -/
theorem back_law {p t : List CellD} {x : List (List CellD)} (m : (matchE p t x).2.1 = true ∧ (matchE p t x).2.2 = 0) :
    (matchE p t x).1.length = 16 ∧ (∀ n : Int, 0 ≤ n → n < 16 → n ∉ namedD p 12 → regD (matchE p t x).1 n = regD x n) ∧
    ((∀ c ∈ p, c.kind ≠ 11) → (∀ c ∈ p, c.kind = 13 → ∀ d ∈ p, d.kind = 12 → c.n ≠ d.n) → toTermE p (matchE p t x).1 = (t, 0)) := by
  obtain ⟨out, e, hf⟩ := match_some m
  obtain ⟨m1, m2, m3, m4, m5⟩ := match_ok.1 m
  obtain ⟨hg, _, _⟩ := prightE_ok m1
  obtain ⟨ht, _, htl⟩ := rightE_ok m2
  obtain ⟨hx1, hx2⟩ := wrong8_regs m3
  rw [e]
  have hlen : out.length = 16 := (fits_len p t x _ out hf).trans (regs16_len x)
  refine ⟨hlen, fun n h0 h1 hn => ?_, fun h11 h13 => ?_⟩
  · have hb : boundB p n = false := by
      cases hb : boundB p n
      · rfl
      · exact absurd ((bound_named h0 h1).2 hb) hn
    exact (fits_unbound p t x _ out n hf hg.all h0 hb).trans (regD_regs16 h0 h1)
  · obtain ⟨i1, i2⟩ := fits_put p t x _ out 1 hf hg ht.wf (prightE_distinct m1) (regs16_len x) h11 (fun c hc k => by
      have hr := hole_reg (hg.all c hc) (by rw [k]; rfl)
      refine ⟨?_, regD_regs16 hr.1 hr.2⟩
      cases hb : boundB p c.n
      · rfl
      · simp only [boundB, List.any_eq_true] at hb
        obtain ⟨d, hd, e2⟩ := hb
        simp at e2
        exact absurd e2.2.symm (h13 c hc k d hd e2.1))
    have hw : wrong8 out = 0 := by
      rw [wrong8, if_neg (by omega)]
      exact regs_of_right _ (fits_right p t x _ out 1 hf hg ht htl (regs16_right hx2))
    have ha : (p.any fun c => decide (c.kind = 11)) = false := by
      rw [List.any_eq_false]; intro c hc; simp [h11 c hc]
    have hn : (p.any fun c => holeB c.kind && (regD out c.n).isEmpty) = false := by
      rw [List.any_eq_false]
      intro c hc
      cases hh : holeB c.kind
      · simp
      · simp [i2 c hc hh]
    rw [toTermE, if_neg (by simp [m1]), if_neg (by simp [hw]), if_neg (by simp [ha]), if_neg (by simp [hn]), i1, if_neg (by omega)]
/-- Registers of which those that a pattern asks are another list's. -/
def mixD (p : List CellD) (x y : List (List CellD)) : List (List CellD) := (List.range 16).map fun n => if namedB p 13 ((n : Nat) : Int) = true then regD x ((n : Nat) : Int) else regD y ((n : Nat) : Int)
theorem mix_len (p : List CellD) (x y : List (List CellD)) : (mixD p x y).length = 16 := by simp [mixD]
theorem mix_at {p : List CellD} {x y : List (List CellD)} {n : Int} (h0 : 0 ≤ n) (h1 : n < 16) : regD (mixD p x y) n = if namedB p 13 n = true then regD x n else regD y n := by
  rw [regD_nat h0, List.getD_eq_getElem?_getD, List.getElem?_eq_getElem (by rw [mix_len]; omega)]
  simp only [mixD, List.getElem_map, List.getElem_range, Option.getD_some]
  rw [Int.toNat_of_nonneg h0]
theorem mix_wrong {p : List CellD} {x y : List (List CellD)} (hx : wrong8 x = 0) (hy : wrong8 y = 0) : wrong8 (mixD p x y) = 0 := by
  rw [wrong8, if_neg (by rw [mix_len]; omega)]
  refine regs_of_right _ fun l hl hne => ?_
  simp only [mixD, List.mem_map, List.mem_range] at hl
  obtain ⟨n, _, rfl⟩ := hl
  by_cases hn : namedB p 13 ((n : Nat) : Int) = true
  · rw [if_pos hn] at hne ⊢
    exact regD_right (wrong8_regs hx).2 _ hne
  · rw [if_neg hn] at hne ⊢
    exact regD_right (wrong8_regs hy).2 _ hne
theorem mix_asked {p : List CellD} {x y : List (List CellD)} (hp : ∀ c ∈ p, patE c = 0) : ∀ c ∈ p, c.kind = 13 → regD (mixD p x y) c.n = regD x c.n := by
  intro c hc k
  have hr := hole_reg (hp c hc) (by rw [k]; rfl)
  rw [mix_at hr.1 hr.2, if_pos]
  simp only [namedB, List.any_eq_true]
  exact ⟨c, hc, by simp [k]⟩
theorem fit_congr : ∀ (p t : List CellD) (x z : List (List CellD)), (∀ c ∈ p, c.kind = 13 → regD z c.n = regD x c.n) → fitB p t z = fitB p t x
  | [], t, x, z, h => rfl
  | c :: p, t, x, z, h => by
    have h' : ∀ d ∈ p, d.kind = 13 → regD z d.n = regD x d.n := fun d hd => h d (List.mem_cons_of_mem _ hd)
    unfold fitB
    rw [fit_congr p _ x z h', fit_congr p _ x z h']
    by_cases k : c.kind = 13
    · rw [h c (by simp) k]
    · simp [k]
theorem set_congr {p : List CellD} {x z : List (List CellD)} (h : ∀ c ∈ p, c.kind = 13 → regD z c.n = regD x c.n) : asksSet p z = asksSet p x := by
  unfold asksSet
  rw [Bool.eq_iff_iff, List.all_eq_true, List.all_eq_true]
  constructor <;> intro k c hc <;> have := k c hc <;> by_cases e : c.kind = 13
  · rw [h c hc e] at this; exact this
  · simp [e]
  · rw [h c hc e]; exact this
  · simp [e]
/-- The law of what a match hangs on. -/
theorem hangs_law {p t : List CellD} {x y : List (List CellD)} (hx : wrong8 x = 0) (hy : wrong8 y = 0) :
    (matchE p t (mixD p x y)).2 = (matchE p t x).2 ∧ ((matchE p t x).2 = (true, 0) → (matchE p t x).1.length = 16 ∧ (matchE p t (mixD p x y)).1.length = 16 ∧ ∀ n ∈ namedD p 12, regD (matchE p t x).1 n = regD (matchE p t (mixD p x y)).1 n) := by
  by_cases hp : (prightE p).1 = 0
  · obtain ⟨hg, _, _⟩ := prightE_ok hp
    have hz := mix_wrong (p := p) hx hy
    have ha := mix_asked (p := p) (x := x) (y := y) hg.all
    have h1 : (matchE p t (mixD p x y)).2 = (matchE p t x).2 := by
      by_cases ht : (rightE t).1 = 0
      · have hf1 := fits_some p t x (regs16 x)
        have hf2 := fits_some p t (mixD p x y) (regs16 (mixD p x y))
        rw [fit_congr p t x _ ha] at hf2
        unfold matchE
        rw [set_congr ha, hz, hx]
        simp only [hp, ht, ne_eq, not_true_eq_false, if_false]
        by_cases hs : asksSet p x = false
        · rw [if_pos hs, if_pos hs]
        · rw [if_neg hs, if_neg hs]
          cases e1 : fitsL p t x (regs16 x) <;> cases e2 : fitsL p t (mixD p x y) (regs16 (mixD p x y))
          · rfl
          · rw [e1] at hf1; rw [e2] at hf2; rw [← hf1] at hf2; cases hf2
          · rw [e1] at hf1; rw [e2] at hf2; rw [← hf1] at hf2; cases hf2
          · rfl
      · unfold matchE
        simp [hp, ht]
    refine ⟨h1, fun hm => ?_⟩
    have ma : (matchE p t x).2.1 = true ∧ (matchE p t x).2.2 = 0 := by rw [hm]; exact ⟨rfl, rfl⟩
    have mb : (matchE p t (mixD p x y)).2.1 = true ∧ (matchE p t (mixD p x y)).2.2 = 0 := by rw [h1, hm]; exact ⟨rfl, rfl⟩
    refine ⟨(back_law ma).1, (back_law mb).1, fun n hn => ?_⟩
    obtain ⟨a, ea, fa⟩ := match_some ma
    obtain ⟨b, eb, fb⟩ := match_some mb
    rw [ea, eb]
    have hn2 := hn
    unfold namedD at hn
    simp only [List.mem_map, List.mem_filter, List.mem_range] at hn
    obtain ⟨m, ⟨hm1, hm2⟩, rfl⟩ := hn
    exact fits_same p t x _ _ _ a b _ fa fb hg.all (regs16_len _) (regs16_len _) (by omega) (.inl ((bound_named (by omega) (by omega)).1 hn2))
  · have e : ∀ z, matchE p t z = ([], false, (prightE p).1) := fun z => by rw [matchE, if_pos hp]
    rw [e, e]
    exact ⟨rfl, fun h => by injection h with h _; cases h⟩
end Go.Proofs.YtefpolgflimlgaaDoor.Tm
