/- PatQ: several texts in one. -/
import Derived.Test.YtfeaolnklooanaaDoorBase
import Derived.Test.YtfeaolnklooanaaDoorMid
/- Layer 8 as plain data: patterns, what they match. A pattern's cell has a cell's fields. -/
namespace Go.Proofs.YtfeaolnklooanaaDoor.Tm
set_option linter.unusedVariables false
set_option linter.unusedSimpArgs false

def holeB (k : Int) : Bool := decide (k = 11) || (decide (k = 12) || decide (k = 13))
/-- What is wrong of a pattern's cell alone. -/
def patE (c : CellD) : Int :=
  if holeB c.kind = true then (if c.text.size ≠ 0 ∨ (c.kind = 11 ∧ c.n ≠ 0) then 3 else if c.n < 0 ∨ 16 ≤ c.n then 1 else 0) else cellE c
def boundB (p : List CellD) (n : Int) : Bool := p.any fun c => decide (c.kind = 12) && decide (c.n = n)
/-- The loop of Right: what has been gone through, what is left. -/
def prightL : List CellD → List CellD → Int → Int × Int
  | pre, [], o => if o > 0 then (62, pre.length) else (0, 0)
  | pre, c :: l, o => if patE c ≠ 0 then (patE c, pre.length) else if c.kind = 12 ∧ boundB pre c.n = true then (6, pre.length) else if o = 0 then (63, pre.length) else prightL (pre ++ [c]) l (o - 1 + kidsD c)
def prightE (p : List CellD) : Int × Int := if p.length = 0 then (5, 0) else if 256 < p.length then (7, 0) else prightL [] p 1
/-- The registers that cells of a kind name. -/
def namedB (p : List CellD) (k : Int) (n : Int) : Bool := p.any fun c => decide (c.kind = k) && decide (c.n = n)
def namedD (p : List CellD) (k : Int) : List Int := ((List.range 16).filter fun n => namedB p k (n : Nat)).map fun n => ((n : Nat) : Int)

/-! so many terms (or patterns) ahead of a list -/
def spanK : List CellD → Nat → Nat
  | _, 0 => 0
  | [], _ + 1 => 0
  | c :: l, k + 1 => 1 + spanK l (k + kidsD c)
def skipK (l : List CellD) (k : Nat) : List CellD := l.drop (spanK l k)
def hasK : List CellD → Nat → Prop
  | _, 0 => True
  | [], _ + 1 => False
  | c :: l, k + 1 => hasK l (k + kidsD c)
theorem spanK_zero (l : List CellD) : spanK l 0 = 0 := by cases l <;> rfl
theorem skipK_zero (l : List CellD) : skipK l 0 = l := by rw [skipK, spanK_zero]; rfl
theorem skipK_cons (c : CellD) (l : List CellD) (k : Nat) : skipK (c :: l) (k + 1) = skipK l (k + kidsD c) := by
  unfold skipK
  rw [show spanK (c :: l) (k + 1) = 1 + spanK l (k + kidsD c) from rfl, Nat.add_comm, List.drop_succ_cons]
theorem span_le : ∀ (l : List CellD) (k : Nat), spanK l k ≤ l.length
  | l, 0 => by rw [spanK_zero]; omega
  | [], k + 1 => Nat.le_refl _
  | c :: l, k + 1 => by
    have := span_le l (k + kidsD c)
    show 1 + spanK l (k + kidsD c) ≤ l.length + 1
    omega
theorem hasK_zero (l : List CellD) : hasK l 0 := by cases l <;> trivial
theorem endL_has : ∀ (l : List CellD) (i k : Nat), hasK l (k + 1) → endL l i (k + 1) = (((i + spanK l (k + 1) : Nat) : Int), 0)
  | [], i, k, h => h.elim
  | c :: l, i, k, h => by
    have h' : hasK l (k + kidsD c) := h
    unfold endL
    show (if ((k : Int) + 1) - 1 + kidsD c = 0 then _ else _) = (((i + (1 + spanK l (k + kidsD c)) : Nat) : Int), 0)
    rcases Nat.eq_zero_or_pos (k + kidsD c) with e | e
    · rw [if_pos (by omega), e, spanK_zero]; simp
    · rw [if_neg (by omega)]
      obtain ⟨m, hm⟩ : ∃ m, k + kidsD c = m + 1 := ⟨k + kidsD c - 1, by omega⟩
      rw [hm] at h' ⊢
      have := endL_has l (i + 1) m h'
      rw [show (k : Int) + 1 - 1 + kidsD c = (m : Int) + 1 by omega, this]
      congr 2; omega
/-- The open terms of a list close at its end. -/
def Wf : List CellD → Int → Prop
  | [], o => o = 0
  | c :: l, o => 0 < o ∧ Wf l (o - 1 + kidsD c)
def PGood : List CellD → Int → Prop
  | [], o => o = 0
  | c :: l, o => patE c = 0 ∧ 0 < o ∧ PGood l (o - 1 + kidsD c)
theorem Good.wf : ∀ {l : List CellD} {o : Int}, Good l o → Wf l o
  | [], o, h => h
  | c :: l, o, h => ⟨h.2.1, Good.wf h.2.2⟩
theorem PGood.wf : ∀ {l : List CellD} {o : Int}, PGood l o → Wf l o
  | [], o, h => h
  | c :: l, o, h => ⟨h.2.1, PGood.wf h.2.2⟩
theorem Wf.has : ∀ {l : List CellD} {o : Int} {k : Nat}, Wf l o → (k : Int) ≤ o → hasK l k
  | l, o, 0, h, e => hasK_zero l
  | [], o, k + 1, h, e => by have h0 : o = 0 := h; omega
  | c :: l, o, k + 1, h, e => Wf.has (l := l) (k := k + kidsD c) h.2 (by push_cast at e ⊢; omega)
theorem Wf.skip : ∀ {l : List CellD} {o : Int} {k : Nat}, Wf l o → (k : Int) ≤ o → Wf (skipK l k) (o - k)
  | l, o, 0, h, e => by rw [skipK_zero]; simpa using h
  | [], o, k + 1, h, e => by have h0 : o = 0 := h; omega
  | c :: l, o, k + 1, h, e => by
    have := Wf.skip (l := l) (k := k + kidsD c) h.2 (by push_cast at e ⊢; omega)
    rw [skipK_cons]
    rw [show o - ((k + 1 : Nat) : Int) = o - 1 + kidsD c - ((k + kidsD c : Nat) : Int) by push_cast; omega]
    exact this
theorem Wf.pos {l : List CellD} {o : Int} (h : Wf l o) (hl : l ≠ []) : 0 < o := by
  cases l with
  | nil => exact absurd rfl hl
  | cons c l => exact h.1
theorem Wf.nonneg : ∀ {l : List CellD} {o : Int}, Wf l o → 0 ≤ o
  | [], o, h => by have h0 : o = 0 := h; omega
  | c :: l, o, h => by have := h.1; omega
theorem Wf.ne {l : List CellD} {o : Int} (h : Wf l o) (ho : 0 < o) : l ≠ [] := fun e => by
  subst e
  have h0 : o = 0 := h
  omega
theorem skip_add : ∀ (l : List CellD) (a b : Nat), skipK (skipK l a) b = skipK l (a + b)
  | l, 0, b => by rw [skipK_zero, Nat.zero_add]
  | [], a + 1, b => by
    have e : ∀ k, skipK [] k = [] := fun k => by simp [skipK]
    rw [e, e, e]
  | c :: l, a + 1, b => by
    rw [skipK_cons, skip_add l (a + kidsD c) b, show a + 1 + b = (a + b) + 1 by omega, skipK_cons]
    congr 1; omega
/-- The place behind a term of a suffix. -/
theorem endE_suffix {l : List CellD} {j : Nat} {o : Int} (h : Wf (l.drop j) o) (ho : 0 < o) (hj : j < l.length) : endE l j = (((j + spanK (l.drop j) 1 : Nat) : Int), 0) ∧ j + spanK (l.drop j) 1 ≤ l.length ∧ j < j + spanK (l.drop j) 1 := by
  have hk : hasK (l.drop j) (0 + 1) := h.has (by omega)
  refine ⟨?_, ?_, ?_⟩
  · rw [endE, if_neg (by omega), Int.toNat_natCast]
    exact endL_has (l.drop j) j 0 hk
  · have := span_le (l.drop j) 1
    simp at this; omega
  · rw [List.drop_eq_getElem_cons hj]
    show j < j + (1 + spanK _ _)
    omega
theorem drop_span {l : List CellD} (j k : Nat) : l.drop (j + spanK (l.drop j) k) = skipK (l.drop j) k := by
  rw [skipK, List.drop_drop]
theorem take_span {l : List CellD} (j k : Nat) (h : j + spanK (l.drop j) k ≤ l.length) : (l.drop j).take (spanK (l.drop j) k) = (l.take (j + spanK (l.drop j) k)).drop j := by
  rw [List.drop_take]; congr 1; omega

/-! right patterns -/
theorem pgood_of : ∀ (l pre : List CellD) (o : Int), 0 ≤ o → (prightL pre l o).1 = 0 → PGood l o
  | [], pre, o, h, e => by
    unfold prightL at e
    split at e
    · cases e
    · show o = 0; omega
  | c :: l, pre, o, h, e => by
    unfold prightL at e
    split at e
    · rename_i hc; exact absurd e hc
    · split at e
      · cases e
      · split at e
        · cases e
        · exact ⟨by omega, by omega, pgood_of l _ _ (by omega) e⟩
theorem prightE_ok {p : List CellD} (h : (prightE p).1 = 0) : PGood p 1 ∧ p.length ≠ 0 ∧ p.length ≤ 256 := by
  unfold prightE at h
  split at h
  · cases h
  · split at h
    · cases h
    · exact ⟨pgood_of p [] 1 (by omega) h, by omega, by omega⟩
theorem PGood.all : ∀ {p : List CellD} {o : Int}, PGood p o → ∀ c ∈ p, patE c = 0
  | [], o, h, c, hc => by cases hc
  | d :: p, o, h, c, hc => by
    rcases List.mem_cons.1 hc with rfl | hc
    · exact h.1
    · exact PGood.all h.2.2 c hc
theorem Good.all : ∀ {p : List CellD} {o : Int}, Good p o → ∀ c ∈ p, cellE c = 0
  | [], o, h, c, hc => by cases hc
  | d :: p, o, h, c, hc => by
    rcases List.mem_cons.1 hc with rfl | hc
    · exact h.1
    · exact Good.all h.2.2 c hc
theorem hole_reg {c : CellD} (h : patE c = 0) (k : holeB c.kind = true) : 0 ≤ c.n ∧ c.n < 16 := by
  rw [patE, if_pos k] at h
  split at h
  · cases h
  · split at h
    · cases h
    · omega
theorem cellE_kind {c : CellD} (h : cellE c = 0) : 1 ≤ c.kind ∧ c.kind ≤ 8 := by
  unfold cellE at h
  split at h
  · cases h
  · omega
theorem hole_of {k : Int} (h : holeB k = true) : k = 11 ∨ k = 12 ∨ k = 13 := by simpa [holeB] using h
theorem hole_kids {c : CellD} (h : holeB c.kind = true) : kidsD c = 0 := by
  rcases hole_of h with e | e | e <;> simp [kidsD, e]
theorem cell_no_hole {c : CellD} (h : cellE c = 0) : holeB c.kind = false := by
  have := cellE_kind h
  simp [holeB]; omega
theorem patE_cell {c : CellD} (h : cellE c = 0) : patE c = 0 := by rw [patE, if_neg (by simp [cell_no_hole h]), h]

/-! matching -/
def wrong8 (x : List (List CellD)) : Int := if 16 < x.length then 1 else regsE x
def regs16 (x : List (List CellD)) : List (List CellD) := (List.range 16).map fun n => regD x ((n : Nat) : Int)
def asksSet (p : List CellD) (x : List (List CellD)) : Bool := p.all fun c => !(decide (c.kind = 13) && (regD x c.n).isEmpty)
def fitsL : List CellD → List CellD → List (List CellD) → List (List CellD) → Option (List (List CellD))
  | [], _, _, out => some out
  | c :: p, t, x, out =>
    if holeB c.kind = true then
      (if c.kind = 13 ∧ t.take (spanK t 1) ≠ regD x c.n then none
       else fitsL p (skipK t 1) x (if c.kind = 12 then out.set c.n.toNat (t.take (spanK t 1)) else out))
    else if t.head? = some c then fitsL p t.tail x out else none
def matchE (p t : List CellD) (x : List (List CellD)) : List (List CellD) × Bool × Int :=
  if (prightE p).1 ≠ 0 then ([], false, (prightE p).1) else if (rightE t).1 ≠ 0 then ([], false, (rightE t).1) else if wrong8 x ≠ 0 then ([], false, wrong8 x)
  else if asksSet p x = false then ([], false, 5)
  else match fitsL p t x (regs16 x) with
    | none => ([], false, 0)
    | some out => (out, true, 0)
def coversL : List CellD → List CellD → Bool
  | [], _ => true
  | c :: p, q => if c.kind = 11 ∨ c.kind = 12 then coversL p (skipK q 1) else if q.head? = some c then coversL p q.tail else false
def coversE (p q : List CellD) : Bool × Int := if (prightE p).1 ≠ 0 then (false, (prightE p).1) else if (prightE q).1 ≠ 0 then (false, (prightE q).1) else (coversL p q, 0)
def ofTermE (t : List CellD) : List CellD × Int := if (rightE t).1 ≠ 0 then ([], (rightE t).1) else if 256 < t.length then ([], 7) else (t, 0)
/-- What a pattern's cell puts into a term. -/
def putD (x : List (List CellD)) (c : CellD) : List CellD := if holeB c.kind = true then regD x c.n else [c]
def toTermE (p : List CellD) (x : List (List CellD)) : List CellD × Int :=
  if (prightE p).1 ≠ 0 then ([], (prightE p).1) else if wrong8 x ≠ 0 then ([], wrong8 x) else if (p.any fun c => decide (c.kind = 11)) = true then ([], 3)
  else if (p.any fun c => holeB c.kind && (regD x c.n).isEmpty) = true then ([], 5)
  else if 1024 < (p.flatMap (putD x)).length then ([], 7) else (p.flatMap (putD x), 0)
end Go.Proofs.YtfeaolnklooanaaDoor.Tm
/- Good suffixes. -/
namespace Go.Proofs.YtfeaolnklooanaaDoor.Tm
set_option linter.unusedVariables false
set_option linter.unusedSimpArgs false

theorem rightL_good : ∀ (l : List CellD) (i : Nat) (o : Int), Good l o → rightL l i o = (0, 0)
  | [], i, o, g => by
    have h0 : o = 0 := g
    rw [rightL, if_neg (by omega)]
  | c :: l, i, o, g => by
    rw [rightL, if_neg (by simp [g.1]), if_neg (by have := g.2.1; omega)]
    exact rightL_good l _ _ g.2.2
theorem right_of_good {l : List CellD} (g : Good l 1) (h : l.length ≤ 1024) : (rightE l).1 = 0 := by
  have hn : l.length ≠ 0 := fun e => g.wf.ne (by omega) (List.eq_nil_of_length_eq_zero e)
  rw [rightE, if_neg hn, if_neg (by omega), rightL_good l 0 1 g]
theorem good_skip : ∀ (t : List CellD) (o : Int) (k : Nat), Good t o → (k : Int) ≤ o → Good (skipK t k) (o - k)
  | t, o, 0, g, h => by rw [skipK_zero]; simpa using g
  | [], o, k + 1, g, h => by have h0 : o = 0 := g; omega
  | c :: t, o, k + 1, g, h => by
    have := good_skip t _ (k + kidsD c) g.2.2 (by push_cast at h ⊢; omega)
    rw [skipK_cons]
    rw [show o - ((k + 1 : Nat) : Int) = o - 1 + kidsD c - ((k + kidsD c : Nat) : Int) by push_cast; omega]
    exact this
end Go.Proofs.YtfeaolnklooanaaDoor.Tm
