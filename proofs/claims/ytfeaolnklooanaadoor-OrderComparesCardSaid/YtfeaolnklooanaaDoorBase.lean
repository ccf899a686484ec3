/- Base: several texts in one. -/
import Derived.Test.YtfeaolnklooanaaDoorRows
import Derived.Test.YtfeaolnklooanaaDoorShelf
import Derived.WalkKit
import Derived.Lib.Hide
import Derived.Below
import Derived.Deep.QuietTactic
import Derived.Maps.AppendAt
import Derived.Deep.AppendLies
import Derived.RegionTactic
import Derived.OwnWalk
import Derived.Handy
import Derived.BigQuiet
import Derived.WalkSmall
import Derived.Lib.SliceRun
import Derived.WalkSpells
import Derived.WalkMore
import Derived.Scope
import Derived.Deep.RegionHeld3
import Derived.ScopeJumps
import Derived.Lib.DecodeN
import Derived.Laws.BitsLemmas
import Derived.Lib.OthersKept
import Derived.Deep.LoopGhost
/- Cells of terms as plain data: what a right term is. Plain lists; no program in sight. -/
namespace Go.Proofs.YtfeaolnklooanaaDoor.Tm
set_option linter.unusedVariables false
set_option linter.unusedSimpArgs false

/-- A cell of a term. -/
structure CellD where
  kind : Int
  n : Int
  text : ByteArray
deriving DecidableEq

def CellD.vals (c : CellD) : List Value := [.int .i64 c.kind, .int .i64 c.n, .string c.text]
def encs (l : List CellD) : List Value := l.flatMap CellD.vals
theorem encs_length (l : List CellD) : (encs l).length = l.length * 3 := by
  unfold encs
  induction l with
  | nil => rfl
  | cons a l ih => simp [CellD.vals] at ih ⊢; omega
theorem encs_append (a b : List CellD) : encs (a ++ b) = encs a ++ encs b := by simp [encs]
theorem encs_one (l : List CellD) : ∀ v ∈ encs l, v.oneCell' = true := by
  intro v hv
  simp only [encs, List.mem_flatMap] at hv
  obtain ⟨c, _, hv⟩ := hv
  simp [CellD.vals] at hv
  rcases hv with rfl | rfl | rfl <;> rfl
theorem encs_at (l : List CellD) : ∀ j (h : j < l.length), (encs l)[j * 3]? = some (.int .i64 (l[j]).kind) ∧ (encs l)[j * 3 + 1]? = some (.int .i64 (l[j]).n) ∧ (encs l)[j * 3 + 2]? = some (.string (l[j]).text) := by
  induction l with
  | nil => intro j h; simp at h
  | cons a l ih =>
    intro j h
    have e : encs (a :: l) = .int .i64 a.kind :: .int .i64 a.n :: .string a.text :: encs l := rfl
    rw [e]
    cases j with
    | zero => exact ⟨rfl, rfl, rfl⟩
    | succ j =>
      have := ih j (by simpa using h)
      refine ⟨?_, ?_, ?_⟩
      · rw [show (j + 1) * 3 = j * 3 + 1 + 1 + 1 by omega]; simpa using this.1
      · rw [show (j + 1) * 3 + 1 = j * 3 + 1 + 1 + 1 + 1 by omega]; simpa using this.2.1
      · rw [show (j + 1) * 3 + 2 = j * 3 + 2 + 1 + 1 + 1 by omega]; simpa using this.2.2

/-- How many terms follow a cell. -/
def kidsD (c : CellD) : Nat := if c.kind = 7 then 2 else if c.kind = 5 ∧ 0 ≤ c.n ∧ c.n ≤ 255 then c.n.toNat else 0
theorem kidsD_le (c : CellD) : kidsD c ≤ 255 := by unfold kidsD; repeat (first | split | omega)

/-- Right UTF-8 from a place on: no place tells a broken byte. -/
def badAt (s : ByteArray) (i : Nat) : Bool := decide ((Utf8.decode s i).1 = 65533 ∧ (Utf8.decode s i).2 = 1)
def okFrom (s : ByteArray) (i : Nat) : Bool :=
  if i < s.size then (if badAt s i = true then false else okFrom s (i + max 1 (Utf8.decode s i).2)) else true
termination_by s.size - i
def utf8B (s : ByteArray) : Bool := okFrom s 0

/-- What is wrong of a cell alone. -/
def cellE (c : CellD) : Int :=
  if c.kind < 1 ∨ 8 < c.kind then 3
  else if ¬ (c.kind = 2 ∨ c.kind = 8) ∧ c.text.size ≠ 0 then 3
  else if (c.kind = 2 ∨ c.kind = 6 ∨ c.kind = 7 ∨ c.kind = 8) ∧ c.n ≠ 0 then 3
  else if c.kind = 3 then (if c.n < 1 ∨ 281474976710656 < c.n then 1 else 0)
  else if c.kind = 4 then (if c.n < 1 ∨ 1099511627776 < c.n then 1 else 0)
  else if c.kind = 5 then (if c.n < 0 ∨ 255 < c.n then 1 else 0)
  else if c.kind = 2 then (if 255 < c.text.size ∨ utf8B c.text = false then 20 else 0)
  else if c.kind = 8 then (if 1024 < c.text.size then 4 else 0)
  else 0

/-- The loop of Right. -/
def rightL : List CellD → Nat → Int → Int × Int
  | [], i, o => if o > 0 then (62, i) else (0, 0)
  | c :: l, i, o => if cellE c ≠ 0 then (cellE c, i) else if o = 0 then (63, i) else rightL l (i + 1) (o - 1 + kidsD c)
def rightE (l : List CellD) : Int × Int := if l.length = 0 then (5, 0) else if 1024 < l.length then (7, 0) else rightL l 0 1
/-- The loop of End. -/
def endL : List CellD → Nat → Int → Int × Int
  | [], _, _ => (0, 62)
  | c :: l, i, o => if o - 1 + kidsD c = 0 then (i + 1, 0) else endL l (i + 1) (o - 1 + kidsD c)
def endE (l : List CellD) (at_ : Int) : Int × Int := if at_ < 0 ∨ (l.length : Int) ≤ at_ then (0, 1) else endL (l.drop at_.toNat) at_.toNat 1
end Go.Proofs.YtfeaolnklooanaaDoor.Tm
/- What a right term is: each place's term ends within it; one cell more, or less, and it is none. Plain lists. -/
namespace Go.Proofs.YtfeaolnklooanaaDoor.Tm
set_option linter.unusedVariables false
set_option linter.unusedSimpArgs false

def Good : List CellD → Int → Prop
  | [], o => o = 0
  | c :: l, o => cellE c = 0 ∧ 0 < o ∧ Good l (o - 1 + kidsD c)
theorem good_of_right : ∀ (l : List CellD) (i : Nat) (o : Int), 0 ≤ o → (rightL l i o).1 = 0 → Good l o
  | [], i, o, h, e => by
    unfold rightL at e
    split at e
    · cases e
    · show o = 0; omega
  | c :: l, i, o, h, e => by
    unfold rightL at e
    split at e
    · rename_i hc; exact absurd e hc
    · split at e
      · cases e
      · rename_i h1 h2
        refine ⟨by omega, by omega, good_of_right l (i + 1) _ (by omega) e⟩
theorem right_more_one : ∀ (l : List CellD) (c : CellD) (i : Nat) (o : Int), Good l o → cellE c = 0 → rightL (l ++ [c]) i o = (63, ((i + l.length : Nat) : Int))
  | [], c, i, o, g, hc => by
    have g0 : o = 0 := g
    show rightL [c] i o = _
    unfold rightL
    rw [if_neg (by omega), if_pos g0]
    simp
  | a :: l, c, i, o, g, hc => by
    obtain ⟨g1, g2, g3⟩ := g
    show rightL (a :: (l ++ [c])) i o = _
    unfold rightL
    rw [if_neg (by omega), if_neg (by omega), right_more_one l c (i + 1) _ g3 hc]
    simp; omega
theorem right_less_one : ∀ (l : List CellD) (i : Nat) (o : Int), Good l o → l ≠ [] → rightL (l.take (l.length - 1)) i o = (62, ((i + (l.length - 1) : Nat) : Int))
  | [], i, o, g, h => absurd rfl h
  | [a], i, o, g, h => by
    obtain ⟨g1, g2, g3⟩ := g
    show rightL [] i o = _
    unfold rightL
    rw [if_pos g2]
    simp
  | a :: b :: l, i, o, g, h => by
    obtain ⟨g1, g2, g3⟩ := g
    show rightL (a :: (b :: l).take ((b :: l).length - 1)) i o = _
    unfold rightL
    rw [if_neg (by omega), if_neg (by omega), right_less_one (b :: l) (i + 1) _ g3 (by simp)]
    simp; omega
theorem end_good : ∀ (l : List CellD) (i : Nat) (p o : Int), Good l o → 1 ≤ p → p ≤ o → ∃ m : Nat, endL l i p = ((m : Int), 0) ∧ i < m ∧ m ≤ i + l.length ∧ (p = o → m = i + l.length)
  | [], i, p, o, g, h1, h2 => by have g0 : o = 0 := g; omega
  | c :: l, i, p, o, g, h1, h2 => by
    obtain ⟨g1, g2, g3⟩ := g
    unfold endL
    by_cases hp : p - 1 + kidsD c = 0
    · rw [if_pos hp]
      refine ⟨i + 1, by simp, by omega, by simp, fun e => ?_⟩
      subst e
      cases l with
      | nil => rfl
      | cons d l =>
        obtain ⟨_, k2, _⟩ := g3
        omega
    · rw [if_neg hp]
      obtain ⟨m, e1, e2, e3, e4⟩ := end_good l (i + 1) (p - 1 + kidsD c) _ g3 (by omega) (by omega)
      exact ⟨m, e1, by omega, by simp; omega, fun e => by simp; have := e4 (by omega); omega⟩
theorem good_drop : ∀ (l : List CellD) (j : Nat) (o : Int), Good l o → ∃ o', Good (l.drop j) o' ∧ (j = 0 → o' = o)
  | l, 0, o, g => ⟨o, g, fun _ => rfl⟩
  | [], j + 1, o, g => ⟨o, by simpa using g, fun h => by omega⟩
  | c :: l, j + 1, o, g => by
    obtain ⟨_, _, g3⟩ := g
    obtain ⟨o', h, _⟩ := good_drop l j _ g3
    exact ⟨o', h, fun h => by omega⟩
theorem good_pos {l : List CellD} {o : Int} (g : Good l o) (h : l ≠ []) : 0 < o := by
  cases l with
  | nil => exact absurd rfl h
  | cons c l => exact g.2.1
theorem rightE_ok {l : List CellD} (h : (rightE l).1 = 0) : Good l 1 ∧ l.length ≠ 0 ∧ l.length ≤ 1024 := by
  unfold rightE at h
  split at h
  · cases h
  · split at h
    · cases h
    · exact ⟨good_of_right l 0 1 (by omega) h, by omega, by omega⟩
theorem endE_of_right {l : List CellD} (h : (rightE l).1 = 0) {j : Nat} (hj : j < l.length) : ∃ m : Nat, endE l j = ((m : Int), 0) ∧ j < m ∧ m ≤ l.length ∧ (j = 0 → m = l.length) := by
  obtain ⟨g, _, _⟩ := rightE_ok h
  obtain ⟨o, g', h0⟩ := good_drop l j 1 g
  have hp := good_pos g' (by intro e; have := congrArg List.length e; simp at this; omega)
  obtain ⟨m, e1, e2, e3, e4⟩ := end_good (l.drop j) j 1 o g' (by omega) (by omega)
  refine ⟨m, ?_, e2, by simp at e3; omega, fun e => ?_⟩
  · rw [endE, if_neg (by omega), Int.toNat_natCast]; exact e1
  · subst e
    have := e4 (h0 rfl).symm
    simp at this; omega
theorem rightE_more {l : List CellD} (h : (rightE l).1 = 0) {c : CellD} (hl : l.length + 1 ≤ 1024) (hc : cellE c = 0) : rightE (l ++ [c]) = (63, (l.length : Int)) := by
  obtain ⟨g, h0, h1⟩ := rightE_ok h
  rw [rightE, if_neg (by simp), if_neg (by simp; omega), right_more_one l c 0 1 g hc]
  simp
theorem rightE_less {l : List CellD} (h : (rightE l).1 = 0) : rightE (l.take (l.length - 1)) = if l.length = 1 then (5, 0) else (62, (l.length : Int) - 1) := by
  obtain ⟨g, h0, h1⟩ := rightE_ok h
  by_cases e : l.length = 1
  · rw [if_pos e, rightE, if_pos (by simp [e])]
  · rw [if_neg e, rightE, if_neg (by simp; omega), if_neg (by simp; omega), right_less_one l 0 1 g (by intro e'; subst e'; simp at h0)]
    simp; omega
end Go.Proofs.YtfeaolnklooanaaDoor.Tm
/- The order of terms, as plain data: cell by cell. Plain lists. -/
namespace Go.Proofs.YtfeaolnklooanaaDoor.Tm
set_option linter.unusedVariables false
set_option linter.unusedSimpArgs false

/-- -1, 0, 1 of two texts' bytes. -/
def bytesCmp : List UInt8 → List UInt8 → Int
  | [], [] => 0
  | [], _ :: _ => -1
  | _ :: _, [] => 1
  | x :: xs, y :: ys => if x < y then -1 else if y < x then 1 else bytesCmp xs ys
def intCmp (a b : Int) : Int := if a < b then -1 else if b < a then 1 else 0
def cellCmp (a b : CellD) : Int :=
  if a.kind ≠ b.kind then intCmp a.kind b.kind else if intCmp a.n b.n ≠ 0 then intCmp a.n b.n else bytesCmp a.text.data.toList b.text.data.toList
def termCmp : List CellD → List CellD → Int
  | a :: l, b :: m => if cellCmp a b ≠ 0 then cellCmp a b else termCmp l m
  | _, _ => 0
/-- Both ways are told at once: what the order laws ask. -/
structure Sides (x y : Int) : Prop where
  turn : x = -y
  rng : x = -1 ∨ x = 0 ∨ x = 1
theorem bytes_sides : ∀ a b, Sides (bytesCmp a b) (bytesCmp b a)
  | [], [] => ⟨rfl, .inr (.inl rfl)⟩
  | [], _ :: _ => ⟨rfl, .inl rfl⟩
  | _ :: _, [] => ⟨rfl, .inr (.inr rfl)⟩
  | x :: xs, y :: ys => by
    unfold bytesCmp
    by_cases h1 : x < y
    · have h2 : ¬ y < x := fun h => absurd (UInt8.lt_trans h1 h) (UInt8.lt_irrefl _)
      rw [if_pos h1, if_neg h2, if_pos h1]
      exact ⟨rfl, .inl rfl⟩
    · by_cases h2 : y < x
      · rw [if_neg h1, if_pos h2, if_pos h2]
        exact ⟨rfl, .inr (.inr rfl)⟩
      · rw [if_neg h1, if_neg h2, if_neg h2, if_neg h1]
        exact bytes_sides xs ys
theorem bytes_eq : ∀ a b, bytesCmp a b = 0 → a = b
  | [], [], _ => rfl
  | [], _ :: _, h => by cases h
  | _ :: _, [], h => by cases h
  | x :: xs, y :: ys, h => by
    unfold bytesCmp at h
    split at h
    · cases h
    · split at h
      · cases h
      · rename_i h1 h2
        have e : x = y := by
          have h1' := UInt8.not_lt.1 h1
          have h2' := UInt8.not_lt.1 h2
          exact UInt8.le_antisymm h2' h1'
        rw [e, bytes_eq xs ys h]
theorem bytes_self : ∀ a, bytesCmp a a = 0
  | [] => rfl
  | x :: xs => by
    unfold bytesCmp
    rw [if_neg (UInt8.lt_irrefl _), if_neg (UInt8.lt_irrefl _)]
    exact bytes_self xs
theorem bytes_trans : ∀ a b c, bytesCmp a b ≤ 0 → bytesCmp b c ≤ 0 → bytesCmp a c ≤ 0 ∧ ((bytesCmp a b < 0 ∨ bytesCmp b c < 0) → bytesCmp a c < 0)
  | [], [], [], _, _ => ⟨by decide, fun h => by rcases h with h | h <;> cases h⟩
  | [], [], _ :: _, _, _ => ⟨by show (-1 : Int) ≤ 0; omega, fun _ => by show (-1 : Int) < 0; omega⟩
  | [], _ :: _, [], _, h => by have : (1 : Int) ≤ 0 := h; omega
  | [], _ :: _, _ :: _, _, _ => ⟨by show (-1 : Int) ≤ 0; omega, fun _ => by show (-1 : Int) < 0; omega⟩
  | _ :: _, [], _, h, _ => by have : (1 : Int) ≤ 0 := h; omega
  | _ :: _, _ :: _, [], _, h => by have : (1 : Int) ≤ 0 := h; omega
  | x :: xs, y :: ys, z :: zs, h1, h2 => by
    unfold bytesCmp at h1 h2 ⊢
    by_cases a1 : x < y
    · by_cases b1 : y < z
      · have c1 := UInt8.lt_trans a1 b1
        rw [if_pos c1]; exact ⟨by omega, fun _ => by omega⟩
      · rw [if_neg b1] at h2
        by_cases b2 : z < y
        · rw [if_pos b2] at h2; omega
        · have e : y = z := UInt8.le_antisymm (UInt8.not_lt.1 b2) (UInt8.not_lt.1 b1)
          subst e
          rw [if_pos a1]; exact ⟨by omega, fun _ => by omega⟩
    · rw [if_neg a1] at h1
      by_cases a2 : y < x
      · rw [if_pos a2] at h1; omega
      · have e : x = y := UInt8.le_antisymm (UInt8.not_lt.1 a2) (UInt8.not_lt.1 a1)
        subst e
        rw [if_neg a1] at h1
        rw [if_neg a1]
        by_cases b1 : x < z
        · rw [if_pos b1]; exact ⟨by omega, fun _ => by omega⟩
        · rw [if_neg b1] at h2 ⊢
          by_cases b2 : z < x
          · rw [if_pos b2] at h2; omega
          · rw [if_neg b2] at h2 ⊢
            rw [if_neg b1]
            simp only [if_neg a1, if_neg b1, if_neg b2]
            exact bytes_trans xs ys zs h1 h2
theorem int_sides (a b : Int) : Sides (intCmp a b) (intCmp b a) := by
  unfold intCmp
  by_cases h1 : a < b
  · rw [if_pos h1, if_neg (by omega), if_pos h1]; exact ⟨rfl, .inl rfl⟩
  · by_cases h2 : b < a
    · rw [if_neg h1, if_pos h2, if_pos h2]; exact ⟨rfl, .inr (.inr rfl)⟩
    · rw [if_neg h1, if_neg h2, if_neg h2, if_neg h1]; exact ⟨rfl, .inr (.inl rfl)⟩
theorem int_eq {a b : Int} : intCmp a b = 0 ↔ a = b := by
  unfold intCmp
  split
  · constructor
    · intro h; cases h
    · intro h; omega
  · split
    · constructor
      · intro h; cases h
      · intro h; omega
    · constructor
      · intro _; omega
      · intro _; rfl
theorem int_lt {a b : Int} : intCmp a b < 0 ↔ a < b := by
  unfold intCmp
  split
  · constructor
    · intro _; assumption
    · intro _; omega
  · split
    · constructor
      · intro h; omega
      · intro h; omega
    · constructor
      · intro h; omega
      · intro h; omega
theorem cell_kind {a b : CellD} (h : a.kind ≠ b.kind) : cellCmp a b = intCmp a.kind b.kind := by unfold cellCmp; rw [if_pos h]
theorem cell_n {a b : CellD} (h : a.kind = b.kind) (h2 : a.n ≠ b.n) : cellCmp a b = intCmp a.n b.n := by
  unfold cellCmp; rw [if_neg (fun e => e h), if_pos (fun e => h2 (int_eq.1 e))]
theorem cell_text {a b : CellD} (h : a.kind = b.kind) (h2 : a.n = b.n) : cellCmp a b = bytesCmp a.text.data.toList b.text.data.toList := by
  unfold cellCmp; rw [if_neg (fun e => e h), if_neg (fun e => e (int_eq.2 h2))]
theorem cell_sides (a b : CellD) : Sides (cellCmp a b) (cellCmp b a) := by
  by_cases h : a.kind = b.kind
  · by_cases h2 : a.n = b.n
    · rw [cell_text h h2, cell_text h.symm h2.symm]
      exact bytes_sides _ _
    · rw [cell_n h h2, cell_n h.symm (fun e => h2 e.symm)]
      exact int_sides _ _
  · rw [cell_kind h, cell_kind (fun e => h e.symm)]
    exact int_sides _ _
theorem data_eq {s t : ByteArray} (h : s.data.toList = t.data.toList) : s = t := by
  obtain ⟨⟨s⟩⟩ := s
  obtain ⟨⟨t⟩⟩ := t
  simp only at h
  rw [h]
theorem cell_eq {a b : CellD} : cellCmp a b = 0 ↔ a = b := by
  constructor
  · intro h
    unfold cellCmp at h
    split at h
    · rename_i hk; exact absurd (int_eq.1 h) hk
    · split at h
      · rename_i hn; exact absurd h hn
      · rename_i hk hn
        obtain ⟨k1, n1, t1⟩ := a
        obtain ⟨k2, n2, t2⟩ := b
        simp only [Decidable.not_not] at hk hn
        have e1 := hk
        have e2 := int_eq.1 hn
        have e3 := data_eq (bytes_eq _ _ h)
        simp only at e1 e2 e3
        subst e1 e2 e3
        rfl
  · rintro rfl
    unfold cellCmp
    rw [if_neg (by simp), if_neg (by simp [int_eq.2])]
    exact bytes_self _
theorem cell_trans (a b c : CellD) (h1 : cellCmp a b ≤ 0) (h2 : cellCmp b c ≤ 0) : cellCmp a c ≤ 0 ∧ ((cellCmp a b < 0 ∨ cellCmp b c < 0) → cellCmp a c < 0) := by
  have key : ∀ x y : CellD, cellCmp x y ≤ 0 ↔ (x.kind < y.kind ∨ (x.kind = y.kind ∧ (x.n < y.n ∨ (x.n = y.n ∧ bytesCmp x.text.data.toList y.text.data.toList ≤ 0)))) := by
    intro x y
    unfold cellCmp
    by_cases hk : x.kind = y.kind
    · rw [if_neg (by simp [hk])]
      by_cases hn : x.n = y.n
      · rw [if_neg (by simp [int_eq.2 hn])]; omega
      · rw [if_pos (fun e => hn (int_eq.1 e))]
        have i := int_sides x.n y.n
        have i1 := @int_lt x.n y.n
        have i2 := @int_eq x.n y.n
        omega
    · rw [if_pos hk]
      have i1 := @int_lt x.kind y.kind
      have i2 := @int_eq x.kind y.kind
      omega
  have keyl : ∀ x y : CellD, cellCmp x y < 0 ↔ (x.kind < y.kind ∨ (x.kind = y.kind ∧ (x.n < y.n ∨ (x.n = y.n ∧ bytesCmp x.text.data.toList y.text.data.toList < 0)))) := by
    intro x y
    unfold cellCmp
    by_cases hk : x.kind = y.kind
    · rw [if_neg (by simp [hk])]
      by_cases hn : x.n = y.n
      · rw [if_neg (by simp [int_eq.2 hn])]; omega
      · rw [if_pos (fun e => hn (int_eq.1 e))]
        have i1 := @int_lt x.n y.n
        have i2 := @int_eq x.n y.n
        omega
    · rw [if_pos hk]
      have i1 := @int_lt x.kind y.kind
      have i2 := @int_eq x.kind y.kind
      omega
  have ht := bytes_trans a.text.data.toList b.text.data.toList c.text.data.toList
  rw [key] at h1 h2 ⊢
  rw [keyl, keyl, keyl]
  generalize bytesCmp a.text.data.toList b.text.data.toList = p at *
  generalize bytesCmp b.text.data.toList c.text.data.toList = q at *
  generalize bytesCmp a.text.data.toList c.text.data.toList = r at *
  by_cases hp : p ≤ 0
  · by_cases hq : q ≤ 0
    · have := ht hp hq
      omega
    · omega
  · omega
theorem term_sides : ∀ a b, Sides (termCmp a b) (termCmp b a)
  | [], [] => ⟨rfl, .inr (.inl rfl)⟩
  | [], _ :: _ => ⟨rfl, .inr (.inl rfl)⟩
  | _ :: _, [] => ⟨rfl, .inr (.inl rfl)⟩
  | x :: xs, y :: ys => by
    unfold termCmp
    by_cases h : x = y
    · rw [if_neg (by simp [cell_eq.2 h]), if_neg (by simp [cell_eq.2 h.symm])]
      exact term_sides xs ys
    · rw [if_pos (fun e => h (cell_eq.1 e)), if_pos (fun e => h (cell_eq.1 e).symm)]
      exact cell_sides x y
theorem good_whole : ∀ (l m : List CellD) (o : Int), Good l o → Good m o → termCmp l m = 0 → l = m
  | [], [], _, _, _, _ => rfl
  | [], b :: m, o, g, k, _ => by have g0 : o = 0 := g; obtain ⟨_, k2, _⟩ := k; omega
  | a :: l, [], o, g, k, _ => by have g0 : o = 0 := k; obtain ⟨_, k2, _⟩ := g; omega
  | a :: l, b :: m, o, g, k, h => by
    unfold termCmp at h
    split at h
    · rename_i hc; exact absurd h hc
    · rename_i hc
      have e := cell_eq.1 (by simpa using hc)
      subst e
      rw [good_whole l m _ g.2.2 k.2.2 h]
theorem term_trans : ∀ (a b c : List CellD) (o : Int), Good a o → Good b o → Good c o → termCmp a b ≤ 0 → termCmp b c ≤ 0 → termCmp a c ≤ 0
  | [], _, _, _, _, _, _, _, _ => by unfold termCmp; exact Int.le_refl _
  | _ :: _, _, [], _, _, _, _, _, _ => by unfold termCmp; exact Int.le_refl _
  | a :: l, [], _, o, g, k, _, _, _ => by have g0 : o = 0 := k; obtain ⟨_, k2, _⟩ := g; omega
  | a :: l, b :: m, c :: n, o, g, k, j, h1, h2 => by
    unfold termCmp at h1 h2 ⊢
    have t := cell_trans a b c
    by_cases e1 : a = b
    · subst e1
      rw [if_neg (by simp [cell_eq.2])] at h1
      by_cases e2 : a = c
      · subst e2
        rw [if_neg (by simp [cell_eq.2])] at h2 ⊢
        exact term_trans l m n _ g.2.2 k.2.2 j.2.2 h1 h2
      · rw [if_pos (fun e => e2 (cell_eq.1 e))] at h2 ⊢
        exact h2
    · rw [if_pos (fun e => e1 (cell_eq.1 e))] at h1
      by_cases e2 : b = c
      · subst e2
        rw [if_pos (fun e => e1 (cell_eq.1 e))]
        exact h1
      · rw [if_pos (fun e => e2 (cell_eq.1 e))] at h2
        have t2 := t h1 h2
        have hlt : cellCmp a b < 0 := by
          rcases Int.lt_or_eq_of_le h1 with h | h
          · exact h
          · exact absurd (cell_eq.1 h) e1
        have := t2.2 (.inl hlt)
        rw [if_pos (by omega)]
        omega
end Go.Proofs.YtfeaolnklooanaaDoor.Tm
/- A first cell and terms behind it: what joined makes. Plain lists. -/
namespace Go.Proofs.YtfeaolnklooanaaDoor.Tm
set_option linter.unusedVariables false
set_option linter.unusedSimpArgs false

def sumL (k : Nat) : List (List CellD) → Nat
  | [] => 0
  | t :: ls => k + t.length + sumL k ls
theorem sumL_append (k : Nat) : ∀ a b : List (List CellD), sumL k (a ++ b) = sumL k a + sumL k b
  | [], b => by simp [sumL]
  | t :: a, b => by simp [sumL, sumL_append k a b]; omega
theorem sumL_take {k j : Nat} {ls : List (List CellD)} (h : j < ls.length) : sumL k (ls.take (j + 1)) = sumL k (ls.take j) + (k + ls[j].length) := by
  rw [List.take_succ_eq_append_getElem h, sumL_append]
  simp [sumL]
theorem sumL_le {k j : Nat} (ls : List (List CellD)) : sumL k (ls.take j) ≤ sumL k ls := by
  have := sumL_append k (ls.take j) (ls.drop j)
  rw [List.take_append_drop] at this
  omega
def joinL (each : List CellD) (ls : List (List CellD)) : List CellD := ls.flatMap (each ++ ·)
theorem joinL_take {each : List CellD} {j : Nat} {ls : List (List CellD)} (h : j < ls.length) : joinL each (ls.take (j + 1)) = joinL each (ls.take j) ++ (each ++ ls[j]) := by
  unfold joinL
  rw [List.take_succ_eq_append_getElem h]
  simp only [List.flatMap_append, List.flatMap_cons, List.flatMap_nil, List.append_nil]
theorem joinL_length (each : List CellD) : ∀ ls : List (List CellD), (joinL each ls).length = sumL each.length ls
  | [] => rfl
  | t :: ls => by
    have := joinL_length each ls
    simp [joinL, sumL] at this ⊢
    omega
def joinE (first each last : List CellD) (ls : List (List CellD)) : List CellD × Int :=
  if 1024 < first.length + last.length + sumL each.length ls then ([], 7) else (first ++ joinL each ls ++ last, 0)
end Go.Proofs.YtfeaolnklooanaaDoor.Tm
/- Cells of terms in memory: a slice that reads as a list of cells; a row of the call's own; frames. -/
namespace Go.Proofs.YtfeaolnklooanaaDoor.Tm
open Go.RowKit
set_option linter.unusedVariables false
set_option linter.unusedSimpArgs false

/-! frames -/
theorem grown_below {a b : World} (h : Below a.heap.size a b) (row : Option Nat) : a.grownBy b row := ⟨h.os, h.tape, h.output, h.size, fun i hi _ => h.block i hi⟩
theorem grown_trans {a b c : World} {row : Option Nat} (h : a.grownBy b row) (k : b.grownBy c row) : a.grownBy c row :=
  ⟨k.os.trans h.os, k.tape.trans h.tape, k.output.trans h.output, Nat.le_trans h.size k.size, fun i hi hr => (k.block i (Nat.lt_of_lt_of_le hi h.size) hr).trans (h.block i hi hr)⟩
theorem grown_setCell (w : World) (c i : Nat) (v : Value) : w.grownBy (w.setCell ⟨c, i, none⟩ v) (some c) :=
  ⟨rfl, rfl, rfl, by simp [World.setCell], fun k _ hk => Below.heap_setCell _ _ _ _ (fun e => hk (by rw [e]))⟩
theorem below_alloc' {w W : World} (h : Below w.heap.size w W) (o : Obj) : Below w.heap.size w (W.alloc o) := h.alloc h.size o
theorem below_one (w : World) (o : Obj) : Below w.heap.size w (w.alloc o) := (Below.refl _ w).alloc (Nat.le_refl _) o
theorem below_then {w W V : World} (h : Below w.heap.size w W) (k : Below W.heap.size W V) : Below w.heap.size w V := h.trans (k.mono h.size)
theorem heap_new (w : World) (o : Obj) : (w.alloc o).heap[w.heap.size]? = some o := by show (w.heap.push o)[_]? = _; simp
theorem heap_setCell_self {w : World} {b i : Nat} {a : Array Value} {t : TypeId} {fr : Nat × Nat} {v : Value} (h : w.heap[b]? = some (.cells a t fr)) : (w.setCell ⟨b, i, none⟩ v).heap[b]? = some (.cells (a.setIfInBounds i v) t fr) := by
  have hlt := lt_of_block h
  have h' : w.heap[b] = .cells a t fr := by simpa [Array.getElem?_eq_getElem hlt] using h
  show (w.heap.modify b _)[b]? = _
  rw [Array.getElem?_eq_getElem (by simpa using hlt), Array.getElem_modify_self, h']
  rfl
theorem cell_lt {w : World} {a : Addr} {v : Value} (h : w.cell? a = some v) : a.block < w.heap.size := World.block_lt_of_cell? w a h
theorem cell_below {w W : World} (h : Below w.heap.size w W) {a : Addr} {v : Value} (hc : w.cell? a = some v) : W.cell? a = some v := (h.cell (cell_lt hc)).trans hc

/-! a slice that reads as cells -/
/-- The j-th cell at an address. -/
def CellAt (w : World) (b o : Nat) (c : CellD) : Prop :=
  w.cell? ⟨b, o, none⟩ = some (.int .i64 c.kind) ∧ w.cell? ⟨b, o + 1, none⟩ = some (.int .i64 c.n) ∧ w.cell? ⟨b, o + 2, none⟩ = some (.string c.text)
def Reads (w : World) (A : Option Addr) (l : List CellD) : Prop := ∀ j (h : j < l.length), ∃ b o, A = some ⟨b, o, none⟩ ∧ CellAt w b (o + j * 3) l[j]
theorem CellAt.below {w W : World} {b o : Nat} {c : CellD} (h : CellAt w b o c) (hB : Below w.heap.size w W) : CellAt W b o c := ⟨cell_below hB h.1, cell_below hB h.2.1, cell_below hB h.2.2⟩
theorem Reads.below {w W : World} {A : Option Addr} {l : List CellD} (h : Reads w A l) (hB : Below w.heap.size w W) : Reads W A l := fun j hj => by
  obtain ⟨b, o, e, hc⟩ := h j hj
  exact ⟨b, o, e, hc.below hB⟩
theorem Reads.drewN {w : World} {A : Option Addr} {l : List CellD} (h : Reads w A l) (n : Nat) : Reads (w.drewN n) A l := h
theorem Reads.nil (w : World) (A : Option Addr) : Reads w A [] := fun j hj => absurd hj (Nat.not_lt_zero j)
theorem cell_of_same {w W : World} {a : Addr} (h : W.heap[a.block]? = w.heap[a.block]?) : W.cell? a = w.cell? a := World.cell?_of_block (w := w) h
theorem Reads.kept {w W : World} {A : Option Addr} {l : List CellD} {row : Option Nat} (h : Reads w A l) (hg : w.grownBy W row) (hne : ∀ b o, A = some ⟨b, o, none⟩ → row ≠ some b) : Reads W A l := fun j hj => by
  obtain ⟨b, o, e, hc⟩ := h j hj
  have hb : W.heap[b]? = w.heap[b]? := hg.block b (cell_lt hc.1) (fun e' => hne b o e e'.symm)
  exact ⟨b, o, e, (cell_of_same (a := ⟨b, _, none⟩) hb).trans hc.1, (cell_of_same (a := ⟨b, _, none⟩) hb).trans hc.2.1, (cell_of_same (a := ⟨b, _, none⟩) hb).trans hc.2.2⟩
theorem Reads.take {w : World} {A : Option Addr} {l : List CellD} (h : Reads w A l) (m : Nat) : Reads w A (l.take m) := fun j hj => by
  obtain ⟨b, o, e, hc⟩ := h j (by simp at hj; omega)
  exact ⟨b, o, e, by rw [List.getElem_take]; exact hc⟩
theorem Reads.drop {w : World} {b o : Nat} {l : List CellD} (h : Reads w (some ⟨b, o, none⟩) l) (m : Nat) : Reads w (some ⟨b, o + m * 3, none⟩) (l.drop m) := fun j hj => by
  obtain ⟨b', o', e, hc⟩ := h (m + j) (by simp at hj; omega)
  obtain ⟨rfl, rfl⟩ : b = b' ∧ o = o' := by simpa using e
  refine ⟨b, o + m * 3, rfl, ?_⟩
  rw [List.getElem_drop]
  have e2 : o + m * 3 + j * 3 = o + (m + j) * 3 := by omega
  rw [e2]; exact hc
/-- What a row of the call's own holds reads as its cells. -/
theorem Reads.of_row {w : World} {base cap : Nat} {A : Option Addr} {e : TypeId} {l : List CellD} (h : w.ownsRow base e 3 (.slice A l.length cap) l.length (encs l)) : Reads w A l := by
  intro j hj
  rcases h.2 with ⟨h', h0⟩ | ⟨g, cap', cur, h', _⟩
  · omega
  · obtain ⟨rfl, rfl⟩ : A = some ⟨g, 0, none⟩ ∧ cap = cap' := by simpa using h'
    obtain ⟨e0, e1, e2⟩ := encs_at l j hj
    refine ⟨g, 0, rfl, ?_, ?_, ?_⟩
    · rw [Nat.zero_add, h.cellAt _ (by omega)]; exact e0
    · rw [Nat.zero_add, h.cellAt _ (by omega)]; exact e1
    · rw [Nat.zero_add, h.cellAt _ (by omega)]; exact e2
/-- The flat cells behind an address, as append and copy ask them. -/
theorem Reads.flat {w : World} {b o : Nat} {l : List CellD} (h : Reads w (some ⟨b, o, none⟩) l) : ∀ j u, (encs l)[j]? = some u → w.cell? ((⟨b, o, none⟩ : Addr).add j) = some u := by
  intro j u hj
  have hlt : j < (encs l).length := (List.getElem?_eq_some_iff.1 hj).1
  rw [encs_length] at hlt
  have e : ((⟨b, o, none⟩ : Addr).add j) = ⟨b, o + j, none⟩ := by unfold Addr.add; split <;> simp_all
  rw [e]
  obtain ⟨b', o', e', hc⟩ := h (j / 3) (by omega)
  obtain ⟨rfl, rfl⟩ : b = b' ∧ o = o' := by simpa using e'
  obtain ⟨e0, e1, e2⟩ := encs_at l (j / 3) (by omega)
  have hm : j % 3 = 0 ∨ j % 3 = 1 ∨ j % 3 = 2 := by omega
  rcases hm with hm | hm | hm
  · have ej : j = j / 3 * 3 := by omega
    rw [ej] at hj
    rw [ej, hc.1, ← hj, e0]
  · have ej : j = j / 3 * 3 + 1 := by omega
    rw [ej] at hj
    have e3 : o + j = o + j / 3 * 3 + 1 := by omega
    rw [e3, hc.2.1, ← hj, e1]
  · have ej : j = j / 3 * 3 + 2 := by omega
    rw [ej] at hj
    have e3 : o + j = o + j / 3 * 3 + 2 := by omega
    rw [e3, hc.2.2, ← hj, e2]
theorem row_slice {w : World} {base n : Nat} {e : TypeId} {size : Nat} {v : Value} {xs : List Value} (h : w.ownsRow base e size v n xs) : ∃ A c, v = .slice A n c := by
  rcases h.2 with ⟨rfl, rfl⟩ | ⟨g, cap, cur, rfl, _⟩
  · exact ⟨none, 0, rfl⟩
  · exact ⟨_, cap, rfl⟩
theorem row_below {w w1 : World} {base n : Nat} {e : TypeId} {size : Nat} {v : Value} {xs : List Value} (h : w.ownsRow base e size v n xs) (hB : Below w.heap.size w w1) : w1.ownsRow base e size v n xs :=
  h.kept (grown_below hB none) (by cases v.ownBlock <;> simp)
theorem row_base {w : World} {base n : Nat} {e : TypeId} {size : Nat} {v : Value} {xs : List Value} (h : w.ownsRow base e size v n xs) (k : Nat) (hk : v.ownBlock = some k) : base ≤ k := by
  rcases h.2 with ⟨rfl, _⟩ | ⟨g, cap, cur, rfl, hb, _⟩
  · simp [Value.ownBlock] at hk
  · have : g = k := by simpa [Value.ownBlock] using hk
    omega
theorem row_lt {w : World} {base n : Nat} {e : TypeId} {size : Nat} {v : Value} {xs : List Value} (h : w.ownsRow base e size v n xs) (k : Nat) (hk : v.ownBlock = some k) : k < w.heap.size := by
  rcases h.2 with ⟨rfl, _⟩ | ⟨g, cap, cur, rfl, hb, hh, _⟩
  · simp [Value.ownBlock] at hk
  · have : g = k := by simpa [Value.ownBlock] using hk
    subst this
    exact lt_of_block hh
theorem row_mono {w : World} {base base' n : Nat} {e : TypeId} {size : Nat} {v : Value} {xs : List Value} (h : w.ownsRow base e size v n xs) (hb : base' ≤ base) : w.ownsRow base' e size v n xs :=
  ⟨h.1, h.2.imp id (fun ⟨g, cap, cur, a, b, r⟩ => ⟨g, cap, cur, a, by omega, r⟩)⟩
theorem row_nil (W : World) (base : Nat) (e : TypeId) (size : Nat) : W.ownsRow base e size (.slice none 0 0) 0 [] := ⟨by simp, .inl ⟨rfl, rfl⟩⟩
theorem row_cap {w : World} {base n cap : Nat} {e : TypeId} {size : Nat} {A : Option Addr} {xs : List Value} (h : w.ownsRow base e size (.slice A n cap) n xs) : n ≤ cap := by
  rcases h.2 with ⟨h', rfl⟩ | ⟨g, cap', cur, h', _, _, hc, _⟩
  · omega
  · obtain ⟨_, rfl⟩ : A = some ⟨g, 0, none⟩ ∧ cap = cap' := by simpa using h'
    exact hc
theorem ret_int {k : IntKind} {a b : Int} (h : a = b) : Ending.returned (.int k a) = .returned (.int k b) := by rw [h]
theorem ret_ii {a b c d : Int} (h : a = c) (h2 : b = d) : Ending.returned (.tuple #[.int .i64 a, .int .i64 b]) = .returned (.tuple #[.int .i64 c, .int .i64 d]) := by rw [h, h2]
end Go.Proofs.YtfeaolnklooanaaDoor.Tm
/- append onto a row of the call's own, of cells that came in: nil, empty or not. -/
namespace Go.Proofs.YtfeaolnklooanaaDoor.Tm
open Go.RowKit
set_option linter.unusedVariables false
set_option linter.unusedSimpArgs false

/-- What append takes its new elements from. -/
structure Src (w : World) (size : Nat) (A : Option Addr) (m : Nat) (news : List Value) : Prop where
  len : news.length = m * size
  nil : A = none → m = 0
  at_ : ∀ ad, A = some ad → ∀ j u, news[j]? = some u → w.cell? (ad.add j) = some u
  one : ∀ u ∈ news, u.oneCell' = true
theorem Src.of_reads {w : World} {A : Option Addr} {l : List CellD} (h : Reads w A l) : Src w 3 A l.length (encs l) := by
  refine ⟨encs_length l, fun e => ?_, fun ad e j u hj => ?_, encs_one l⟩
  · rcases Nat.eq_zero_or_pos l.length with h0 | h0
    · exact h0
    · obtain ⟨b, o, e', _⟩ := h 0 h0
      rw [e] at e'; cases e'
  · have hlt := (List.getElem?_eq_some_iff.1 hj).1
    rw [encs_length] at hlt
    obtain ⟨b, o, e', _⟩ := h 0 (by omega)
    subst e'
    cases e
    exact h.flat j u hj
theorem Src.of_one {w : World} {b o : Nat} {c : CellD} (h : CellAt w b o c) : Src w 3 (some ⟨b, o, none⟩) 1 (encs [c]) :=
  Src.of_reads (l := [c]) fun j hj => by
    have : j = 0 := by simpa using hj
    subst this
    exact ⟨b, o, rfl, by simpa using h⟩

section
variable {P : Program} (w : World)
theorem run_app_nil (base : Nat) (t ty e : TypeId) (i : TypeInfo) (size : Nat) (ht : P.underlying t = some (.slice e)) (hi : P.info? e = some i)
    (v : Value) (n : Nat) (xs : List Value) (hown : w.ownsRow base e size v n xs) (c : Nat) : (Builtin.append_ #[t, t] ty #[v, .slice none 0 c]).run P w = .ok v w := by
  rcases hown.2 with ⟨rfl, rfl⟩ | ⟨g, cap, cur, rfl, _, _, hnc, _⟩
  · simp [Builtin.append_, run_underlying ht, sizeOf, typeInfo, hi, Builtin.lenOf, Builtin.firstCells]
  · simp [Builtin.append_, run_underlying ht, sizeOf, typeInfo, hi, Builtin.lenOf, Builtin.firstCells, hnc, storeCells]
theorem run_app (base : Nat) (t ty e : TypeId) (i : TypeInfo) (z : Value) (size bytes : Nat) (ht : P.underlying t = some (.slice e)) (hi : P.info? e = some i) (hz : i.zero = some z)
    (hsize : i.size = size) (hby : i.bytes = bytes) (hzs : z.cells.size = size) (hsz : 0 < size)
    (v : Value) (n : Nat) (xs : List Value) (hown : w.ownsRow base e size v n xs) (A : Option Addr) (m c : Nat) (news : List Value) (hr : Src w size A m news)
    (h63 : n + m ≤ maxLen) (hbytes : (n + m) * bytes ≤ 140737488355328) (hbase : base ≤ w.heap.size) :
    ∃ v' w', (Builtin.append_ #[t, t] ty #[v, .slice A m c]).run P w = .ok v' w' ∧ w'.ownsRow base e size v' (n + m) (xs ++ news) ∧ w.grownBy w' v.ownBlock ∧
      (v'.ownBlock = v.ownBlock ∨ v'.ownBlock = some w.heap.size) := by
  rcases A with _ | ad
  · have hm := hr.nil rfl
    subst hm
    have hn : news = [] := List.eq_nil_of_length_eq_zero (by simpa using hr.len)
    subst hn
    exact ⟨v, w, run_app_nil w base t ty e i size ht hi v n xs hown c, by simpa using hown, World.grownBy.refl w _, .inl rfl⟩
  · obtain ⟨v', w', hrun, h2, h3, _, h5⟩ := run_append_own_at (P := P) w base t ty e i z size bytes ht hi hz hsize hby hzs hsz v n xs hown ad m c news hr.len (hr.at_ ad rfl) hr.one h63 hbytes hbase
    exact ⟨v', w', hrun, h2, h3, h5⟩
theorem wpList_app {ops : Array Oper} {rest : List Oper} {o : Oper} {a : Act} {Q : Exit → Act → World → Prop} (hgd : o.guard = none) (s x : Operand) (t : TypeId)
    (ho : o.op = .call { callee := .builtin .append, args := #[s, x], argTypes := #[t, t] })
    (base : Nat) (e : TypeId) (i : TypeInfo) (z : Value) (size bytes : Nat) (ht : P.underlying t = some (.slice e)) (hi : P.info? e = some i) (hz : i.zero = some z)
    (hsize : i.size = size) (hby : i.bytes = bytes) (hzs : z.cells.size = size) (hsz : 0 < size)
    (v : Value) (n : Nat) (xs : List Value) (hs : a.eval s = v) (hown : w.ownsRow base e size v n xs)
    (A : Option Addr) (m c : Nat) (news : List Value) (hx : a.eval x = .slice A m c) (hr : Src w size A m news)
    (h63 : n + m ≤ maxLen) (hbytes : (n + m) * bytes ≤ 140737488355328) (hbase : base ≤ w.heap.size)
    (h : ∀ v' w', w'.ownsRow base e size v' (n + m) (xs ++ news) → w.grownBy w' v.ownBlock → (v'.ownBlock = v.ownBlock ∨ v'.ownBlock = some w.heap.size) → wpList P ops Q rest (a.put o.dst v') w') : wpList P ops Q (o :: rest) a w :=
  wpList_plain hgd fun _ hK => by
    obtain ⟨v', w', hrun, h2, h3, h4⟩ := run_app (P := P) w base t o.type e i z size bytes ht hi hz hsize hby hzs hsz v n xs hown A m c news hr h63 hbytes hbase
    unfold Oper.wp execOp
    simp only [ho, resolve, invoke, builtin, Sem.run_bind, Sem.run_pure, Result.andThen_ok, List.map_toArray, List.map_cons, List.map_nil, hs, hx, hrun]
    exact hK _ _ (h v' w' h2 h3 h4)
end
end Go.Proofs.YtfeaolnklooanaaDoor.Tm
/- The document's Same: are two lists of cells alike? -/
namespace Go.Proofs.YtfeaolnklooanaaDoor.Tm
open Go.RowKit
set_option linter.unusedVariables false
set_option linter.unusedSimpArgs false

set_option maxHeartbeats 2000000 in
theorem rsame_any (A B : Option Addr) (c1 c2 : Nat) (xs ys : List CellD) (w : World) (hx : Reads w A xs) (hy : Reads w B ys) (hm : xs.length ≤ 1000000000000000) (hm2 : ys.length ≤ 1000000000000000) :
    Calls Tryd.prog 10 #[.slice A xs.length c1, .slice B ys.length c2] w fun e w' => e = .returned (.bool (decide (xs = ys))) ∧ Below w.heap.size w w' := by
  by_cases hl : xs.length = ys.length
  · have hb : ((xs.length : Int) != (ys.length : Int)) = false := by rw [bne_eq_false_iff_eq]; omega
    have HX := Lib.hid hx
    have HY := Lib.hid hy
    have HL := Lib.hid hl
    have hle1 : xs.length ≤ ys.length := by omega
    have hle2 : ys.length ≤ xs.length := by omega
    clear hx hy hl
    go_enter Tryd.func10, Tryd.ntmps10
    go_wp2_with fail
    go_loopw [5] (fun i wr => ∃ k : Nat, k ≤ xs.length ∧ i = .int .i64 k ∧ Below w.heap.size w wr ∧ Hid (∀ j (h1 : j < xs.length) (h2 : j < ys.length), j < k → xs[j] = ys[j])) (fun i wr => xs.length - (intOf i).toNat)
    case atStart => exact ⟨0, by omega, rfl, Below.refl _ _, fun j _ _ h => absurd h (Nat.not_lt_zero j)⟩
    case round =>
      obtain ⟨k, hk, rfl, hB, hsame⟩ := hrel
      by_cases hlt : k < xs.length
      · have hlt2 : k < ys.length := by omega
        obtain ⟨g1, o1, hA, c1'⟩ := HX.out k hlt
        obtain ⟨g2, o2, hBa, c2'⟩ := HY.out k hlt2
        subst hA hBa
        obtain ⟨d0, d1, d2⟩ := c1'.below hB
        obtain ⟨e0, e1, e2⟩ := c2'.below hB
        have hi1 : (k : Int) < (xs.length : Int) := by omega
        have hi2 : (k : Int) < (ys.length : Int) := by omega
        clear c1' c2'
        by_cases he : xs[k] = ys[k]
        · have HE := Lib.hid he
          rw [he] at d0 d1 d2
          clear he
          go_wp2
          go_quiet (fail)
          go_wp2
          go_roundw
          case rel => exact ⟨k + 1, by omega, by go_num, below_drewN hB _, fun j h1 h2 h3 => by
            rcases Nat.lt_succ_iff_lt_or_eq.1 h3 with e | rfl
            · exact hsame.out j h1 h2 e
            · exact HE.out⟩
          case measure => simp [intOf]; omega
        · have hne : decide (xs = ys) = false := by
            rw [decide_eq_false_iff_not]; intro e
            exact he (by simp [e])
          have HN := Lib.hid hne
          clear hne
          generalize xs[k] = x at d0 d1 d2 he
          generalize ys[k] = y at e0 e1 e2 he
          by_cases hk : x.kind = y.kind
          · by_cases hn : x.n = y.n
            · have ht : (x.text.toList == y.text.toList) = false := by
                rw [beq_eq_false_iff_ne]
                intro e
                apply he
                obtain ⟨k1, n1, t1⟩ := x
                obtain ⟨k2, n2, t2⟩ := y
                simp only at hk hn e
                subst hk hn
                rw [ByteArray.toList_eq, ByteArray.toList_eq] at e
                obtain ⟨⟨t1⟩⟩ := t1
                obtain ⟨⟨t2⟩⟩ := t2
                simp only at e
                rw [e]
              rw [hk] at d0
              rw [hn] at d1
              go_wp2
              go_quiet (fail)
              go_wp2
              go_ret
              exact ⟨by rw [HN.out]; rfl, below_drewN hB _⟩
            · have ht : (x.n == y.n) = false := beq_eq_false_iff_ne.2 hn
              rw [hk] at d0
              go_wp2
              go_quiet (fail)
              go_wp2
              go_ret
              exact ⟨by rw [HN.out]; rfl, below_drewN hB _⟩
          · have ht : (x.kind == y.kind) = false := beq_eq_false_iff_ne.2 hk
            go_wp2
            go_quiet (fail)
            go_wp2
            go_ret
            exact ⟨by rw [HN.out]; rfl, below_drewN hB _⟩
      · have hall : decide (xs = ys) = true := by
          rw [decide_eq_true_eq]
          exact List.ext_getElem HL.out (fun j h1 h2 => hsame.out j h1 h2 (by omega))
        have HN := Lib.hid hall
        clear hall
        go_wp2
        go_ret
        exact ⟨by rw [HN.out]; rfl, hB⟩
  · have hne : decide (xs = ys) = false := by
      rw [decide_eq_false_iff_not]; intro e; exact hl (by rw [e])
    have hb : ((xs.length : Int) != (ys.length : Int)) = true := by rw [bne_iff_ne]; omega
    have HN := Lib.hid hne
    clear hne hx hy
    go_enter Tryd.func10, Tryd.ntmps10
    go_wp2
    go_ret
    exact ⟨by rw [HN.out]; rfl, Below.refl _ _⟩
end Go.Proofs.YtfeaolnklooanaaDoor.Tm
/- Lent and Kept: a copy of cells with a mark behind it. -/
namespace Go.Proofs.YtfeaolnklooanaaDoor.Tm
open Go.RowKit
set_option linter.unusedVariables false
set_option linter.unusedSimpArgs false

theorem cell_info : (Tryd.prog.info? 47).map (fun i => (i.zero, i.size, i.bytes)) = some (some (.agg #[.int .i64 0, .int .i64 0, .string ⟨#[]⟩]), 3, 32) := by kernel_rfl
def markT : ByteArray := ⟨#[98, 101, 104, 105, 110, 100, 32, 119, 104, 97, 116, 32, 119, 97, 115, 32, 104, 97, 110, 100, 101, 100, 32, 105, 110]⟩
def markC : CellD := ⟨0, 0, markT⟩
/-- A lent copy. -/
structure LentAt (w : World) (base : Nat) (A : Option Addr) (cap : Nat) (l : List CellD) : Prop where
  row : w.ownsRow base 47 3 (.slice A (l.length + 1) cap) (l.length + 1) (encs (l ++ [markC]))
theorem new_cell (w : World) (c : CellD) (t : TypeId) : CellAt (w.alloc (.cells #[.int .i64 c.kind, .int .i64 c.n, .string c.text] t)) w.heap.size 0 c := ⟨by go_cell, by go_cell, by go_cell⟩
set_option maxHeartbeats 1000000 in
theorem lent_any (l : List CellD) (A : Option Addr) (cap : Nat) (w : World) (hr : Reads w A l) (hl : (l.length + 1) * 32 ≤ 140737488355328) :
    Calls Tryd.prog 7 #[.slice A l.length cap] w fun e w' => ∃ A' cap', e = .returned (.slice A' l.length cap') ∧ LentAt w' w.heap.size A' cap' l ∧ Below w.heap.size w w' := by
  obtain ⟨i0, hi, hz0, hz1, hz2⟩ := info_parts cell_info
  have hS := Lib.hid (Src.of_reads hr)
  clear hr
  go_enter Tryd.func7, Tryd.ntmps7
  go_wp2_with (first
    | (at_builtin
       refine wpList_app _ rfl (.tmp 4) (.tmp 5) _ rfl w.heap.size _ i0 _ 3 32 Tryd.underlying22 hi hz0 hz1 hz2 rfl (by omega) (.slice none 0 0) 0 [] rfl (row_nil _ _ _ _) A l.length cap (encs l) rfl hS.out (by simp only [maxLen]; omega) (by omega) (Nat.le_refl _) ?_
       intro v1 w1 hown1 hg1 hat1
       rw [Nat.zero_add, List.nil_append] at hown1
       have hB1 : Below w.heap.size w w1 := (Below.refl _ _).grown hg1 (Nat.le_refl _) (by simp [Value.ownBlock])
       have hsz1 := hB1.size
       obtain ⟨A1, c1, rfl⟩ := row_slice hown1)
    | (at_builtin
       refine wpList_app _ rfl (.tmp 7) (.tmp 9) _ rfl w.heap.size _ i0 _ 3 32 Tryd.underlying22 hi hz0 hz1 hz2 rfl (by omega) (.slice A1 l.length c1) l.length (encs l) rfl (hown1.alloc _) (some ⟨w1.heap.size, 0, none⟩) 1 1 (encs [markC]) rfl (Src.of_one (new_cell w1 markC _)) (by simp only [maxLen]; omega) (by omega) (by rw [World.size_alloc]; omega) ?_
       intro v2 w2 hown2 hg2 hat2
       rw [← encs_append] at hown2
       have hB2 : Below w.heap.size w w2 := (below_alloc' hB1 _).grown hg2 (below_alloc' hB1 _).size (fun k hk => row_base hown1 k hk)
       obtain ⟨A2, c2, rfl⟩ := row_slice hown2
       have hcap := row_cap hown2))
  go_ret
  exact ⟨A2, c2, rfl, ⟨hown2⟩, hB2⟩
theorem LentAt.reads2 {w : World} {base cap : Nat} {A : Option Addr} {l : List CellD} (h : LentAt w base A cap l) : Reads w A (l ++ [markC]) :=
  Reads.of_row (base := base) (cap := cap) (e := 47) (by simpa using h.row)
theorem LentAt.reads {w : World} {base cap : Nat} {A : Option Addr} {l : List CellD} (h : LentAt w base A cap l) : Reads w A l := by
  have := h.reads2.take l.length
  simpa using this
theorem LentAt.below {w W : World} {base cap : Nat} {A : Option Addr} {l : List CellD} (h : LentAt w base A cap l) (hB : Below w.heap.size w W) : LentAt W base A cap l := ⟨row_below h.row hB⟩
set_option maxHeartbeats 1000000 in
theorem kept_any (l : List CellD) (A B : Option Addr) (base cap cap2 : Nat) (w : World) (h : LentAt w base A cap l) (hr : Reads w B l) (hl : (l.length + 1) * 32 ≤ 140737488355328) :
    Calls Tryd.prog 19 #[.slice A l.length cap, .slice B l.length cap2] w fun e w' => e = .returned (.bool true) ∧ Below w.heap.size w w' := by
  have hcap := row_cap h.row
  have H := Lib.hid h
  have HR := Lib.hid hr
  clear h hr
  go_enter Tryd.func19, Tryd.ntmps19
  go_wp2_with fail
  refine (rsame_any A B cap cap2 l l _ H.out.reads HR.out (by omega) (by omega)).mono ?_
  rintro e w' ⟨rfl, hb⟩
  rw [show decide (l = l) = true by simp]
  obtain ⟨b, o, rfl, hc0, hc1, hc2⟩ := (H.out.below hb).reads2 l.length (by simp)
  rw [show (l ++ [markC])[l.length] = markC by simp] at hc2
  have hm : w'.cell? ⟨b, o + l.length * 3 + 2, none⟩ = some (.string ⟨#[98, 101, 104, 105, 110, 100, 32, 119, 104, 97, 116, 32, 119, 97, 115, 32, 104, 97, 110, 100, 101, 100, 32, 105, 110]⟩) := hc2
  clear hc0 hc1 hc2
  go_wp2
  go_ret
  exact ⟨rfl, hb⟩
end Go.Proofs.YtfeaolnklooanaaDoor.Tm
/- Slices of slices of cells in memory. -/
namespace Go.Proofs.YtfeaolnklooanaaDoor.Tm
open Go.RowKit
set_option linter.unusedVariables false
set_option linter.unusedSimpArgs false

/-- What bounds a list of cells that came in or was made. -/
structure Fine (l : List CellD) : Prop where
  len : l.length * 32 ≤ 140737488351232
  text : ∀ j (h : j < l.length), (l[j]).text.size ≤ 9223372036854775807
def Fine2 (ls : List (List CellD)) : Prop := ∀ j (h : j < ls.length), Fine ls[j]
theorem Fine.lim {l : List CellD} (h : Fine l) : l.length ≤ 1000000000000000 := by have := h.len; omega
theorem Fine.nil : Fine [] := ⟨by simp, fun j h => absurd h (Nat.not_lt_zero j)⟩
theorem Fine2.drop {ls : List (List CellD)} (h : Fine2 ls) (k : Nat) : Fine2 (ls.drop k) := fun j hj => by
  rw [List.getElem_drop]; exact h _ _
theorem Fine2.tail {l : List CellD} {ls : List (List CellD)} (h : Fine2 (l :: ls)) : Fine2 ls := fun j hj => by
  have := h (j + 1) (by simpa using hj)
  rwa [List.getElem_cons_succ] at this
theorem Fine2.head {l : List CellD} {ls : List (List CellD)} (h : Fine2 (l :: ls)) : Fine l := h 0 (by simp)
theorem Fine2.nil : Fine2 [] := fun j h => absurd h (Nat.not_lt_zero j)
theorem Fine2.cons {l : List CellD} {ls : List (List CellD)} (h : Fine l) (k : Fine2 ls) : Fine2 (l :: ls) := fun j hj => by
  cases j with
  | zero => exact h
  | succ j =>
    rw [List.getElem_cons_succ]
    exact k j (by simpa using hj)

/-- A cell that holds a slice of cells. -/
def SlAt (w : World) (b o : Nat) (l : List CellD) : Prop := ∃ A c, w.cell? ⟨b, o, none⟩ = some (.slice A l.length c) ∧ l.length ≤ c ∧ Reads w A l
def Reads2 (w : World) (A : Option Addr) (ls : List (List CellD)) : Prop := ∀ j (h : j < ls.length), ∃ b o, A = some ⟨b, o, none⟩ ∧ SlAt w b (o + j) ls[j]
theorem SlAt.below {w W : World} {b o : Nat} {l : List CellD} (h : SlAt w b o l) (hB : Below w.heap.size w W) : SlAt W b o l := by
  obtain ⟨A, c, h0, h1, h2⟩ := h
  exact ⟨A, c, cell_below hB h0, h1, h2.below hB⟩
theorem Reads2.below {w W : World} {A : Option Addr} {ls : List (List CellD)} (h : Reads2 w A ls) (hB : Below w.heap.size w W) : Reads2 W A ls := fun j hj => by
  obtain ⟨b, o, e, hc⟩ := h j hj
  exact ⟨b, o, e, hc.below hB⟩
theorem Reads2.drewN {w : World} {A : Option Addr} {ls : List (List CellD)} (h : Reads2 w A ls) (n : Nat) : Reads2 (w.drewN n) A ls := h
theorem Reads2.nil (w : World) (A : Option Addr) : Reads2 w A [] := fun j hj => absurd hj (Nat.not_lt_zero j)
theorem Reads2.take {w : World} {A : Option Addr} {ls : List (List CellD)} (h : Reads2 w A ls) (m : Nat) : Reads2 w A (ls.take m) := fun j hj => by
  obtain ⟨b, o, e, hc⟩ := h j (by simp at hj; omega)
  exact ⟨b, o, e, by rw [List.getElem_take]; exact hc⟩
theorem Reads2.drop {w : World} {b o : Nat} {ls : List (List CellD)} (h : Reads2 w (some ⟨b, o, none⟩) ls) (m : Nat) : Reads2 w (some ⟨b, o + m, none⟩) (ls.drop m) := fun j hj => by
  obtain ⟨b', o', e, hc⟩ := h (m + j) (by simp at hj; omega)
  obtain ⟨rfl, rfl⟩ : b = b' ∧ o = o' := by simpa using e
  refine ⟨b, o + m, rfl, ?_⟩
  rw [List.getElem_drop]
  have e2 : o + m + j = o + (m + j) := by omega
  rw [e2]; exact hc
theorem Reads2.one {w : World} {b : Nat} {l : List CellD} (h : SlAt w b 0 l) : Reads2 w (some ⟨b, 0, none⟩) [l] := fun j hj => by
  have : j = 0 := by simpa using hj
  subst this
  exact ⟨b, 0, rfl, by simpa using h⟩
theorem Reads2.two {w : World} {b : Nat} {l m : List CellD} (h : SlAt w b 0 l) (k : SlAt w b 1 m) : Reads2 w (some ⟨b, 0, none⟩) [l, m] := fun j hj => by
  have : j = 0 ∨ j = 1 := by simp at hj; omega
  rcases this with rfl | rfl
  · exact ⟨b, 0, rfl, by simpa using h⟩
  · exact ⟨b, 0, rfl, by simpa using k⟩
theorem slAt_new2 {w : World} {A B : Option Addr} {c d : Nat} {l m : List CellD} {t : TypeId} (hr : Reads w A l) (hl : l.length ≤ c) (hr2 : Reads w B m) (hm : m.length ≤ d) :
    Reads2 (w.alloc (.cells #[.slice A l.length c, .slice B m.length d] t)) (some ⟨w.heap.size, 0, none⟩) [l, m] :=
  Reads2.two ⟨A, c, by go_cell, hl, hr.below (below_one _ _)⟩ ⟨B, d, by go_cell, hm, hr2.below (below_one _ _)⟩
theorem slAt_new1 {w : World} {A : Option Addr} {c : Nat} {l : List CellD} {t : TypeId} (hr : Reads w A l) (hl : l.length ≤ c) :
    Reads2 (w.alloc (.cells #[.slice A l.length c] t)) (some ⟨w.heap.size, 0, none⟩) [l] :=
  Reads2.one ⟨A, c, by go_cell, hl, hr.below (below_one _ _)⟩

theorem reads_block {w : World} {g : Nat} {cs : Array Value} {t : TypeId} {l : List CellD} (h : w.heap[g]? = some (.cells cs t (0, 0))) (hc : cs.toList = encs l) : Reads w (some ⟨g, 0, none⟩) l := fun j hj => by
  obtain ⟨e0, e1, e2⟩ := encs_at l j hj
  rw [← hc, Array.getElem?_toList] at e0 e1 e2
  refine ⟨g, 0, rfl, ?_, ?_, ?_⟩ <;> rw [Nat.zero_add]
  · simp [World.cell?, h, e0]
  · simp [World.cell?, h, e1]
  · simp [World.cell?, h, e2]
theorem reads_new (w : World) {cs : Array Value} {t : TypeId} {l : List CellD} (hc : cs.toList = encs l) : Reads (w.alloc (.cells cs t)) (some ⟨w.heap.size, 0, none⟩) l := reads_block (heap_new w _) hc

/-! what is wrong of the first that is not right -/
def wrongE : List (List CellD) → Int
  | [] => 0
  | l :: ls => if (rightE l).1 ≠ 0 then (rightE l).1 else wrongE ls
theorem wrong_bad {ls : List (List CellD)} {j : Nat} (h : j < ls.length) (e : (rightE ls[j]).1 ≠ 0) : wrongE (ls.drop j) = (rightE ls[j]).1 := by
  rw [List.drop_eq_getElem_cons h, wrongE, if_pos e]
theorem wrong_next {ls : List (List CellD)} {j : Nat} (h : j < ls.length) (e : (rightE ls[j]).1 = 0) : wrongE (ls.drop j) = wrongE (ls.drop (j + 1)) := by
  rw [List.drop_eq_getElem_cons h, wrongE, if_neg (by simp [e])]
theorem wrong_done {ls : List (List CellD)} {j : Nat} (h : ls.length ≤ j) : wrongE (ls.drop j) = 0 := by
  rw [List.drop_eq_nil_of_le h, wrongE]
theorem wrong_ok {ls : List (List CellD)} : wrongE ls = 0 ↔ ∀ j (h : j < ls.length), (rightE ls[j]).1 = 0 := by
  induction ls with
  | nil => exact ⟨fun _ j h => absurd h (Nat.not_lt_zero j), fun _ => rfl⟩
  | cons l ls ih =>
    unfold wrongE
    by_cases h : (rightE l).1 = 0
    · rw [if_neg (by simp [h]), ih]
      constructor
      · intro k j hj
        cases j with
        | zero => exact h
        | succ j => exact k j (by simpa using hj)
      · intro k j hj
        exact k (j + 1) (by simpa using hj)
    · rw [if_pos h]
      constructor
      · intro k; exact absurd k h
      · intro k; exact absurd (k 0 (by simp)) h
end Go.Proofs.YtfeaolnklooanaaDoor.Tm
/- slices.Clone of cells; a made term. -/
namespace Go.Proofs.YtfeaolnklooanaaDoor.Tm
open Go.RowKit
set_option linter.unusedVariables false
set_option linter.unusedSimpArgs false

/-- A call answers a term in new memory, and a number. -/
structure OwnT (w w' : World) (base : Nat) (A : Option Addr) (c : Nat) (r : List CellD) : Prop where
  row : w'.ownsRow base 47 3 (.slice A r.length c) r.length (encs r)
  bel : Below w.heap.size w w'
def IsTerm (w : World) (r : List CellD) (e : Ending) (w' : World) : Prop := ∃ A c, e = .returned (.slice A r.length c) ∧ OwnT w w' w.heap.size A c r
def IsTermE (w : World) (r : List CellD × Int) (e : Ending) (w' : World) : Prop := ∃ A c, e = .returned (.tuple #[.slice A r.1.length c, .int .i64 r.2]) ∧ OwnT w w' w.heap.size A c r.1
theorem OwnT.reads {w w' : World} {base c : Nat} {A : Option Addr} {r : List CellD} (h : OwnT w w' base A c r) : Reads w' A r := Reads.of_row h.row
theorem OwnT.cap {w w' : World} {base c : Nat} {A : Option Addr} {r : List CellD} (h : OwnT w w' base A c r) : r.length ≤ c := row_cap h.row
theorem made_row {w : World} {g : Nat} {base : Nat} {t : TypeId} {size : Nat} (hb : base ≤ g) (h : w.heap[g]? = some (.cells #[] t (0, 0))) : w.ownsRow base t size (.slice (some ⟨g, 0, none⟩) 0 0) 0 [] :=
  ⟨by simp, .inr ⟨g, 0, #[], rfl, hb, h, Nat.le_refl _, by simp, by simp⟩⟩
set_option maxHeartbeats 1000000 in
theorem clone_any (l : List CellD) (A : Option Addr) (c : Nat) (w : World) (hr : Reads w A l) (hl : l.length * 32 ≤ 140737488355328) :
    Calls Tryd.prog 36 #[.slice A l.length c] w (IsTerm w l) := by
  have qT : ∀ (w : World) (a : Option Addr) (n c n' c' : Nat), (binOp .eql 22 (.slice a n c) (.slice none n' c')).run Tryd.prog w = .ok (.bool a.isNone) w := fun w a n c n' c' => Lib.run_eql_slice_nil w _ _ a n c n' c' Tryd.underlying22
  obtain ⟨i0, hi, hz0, hz1, hz2⟩ := info_parts cell_info
  rcases A with _ | ad
  · have hl0 : l = [] := by
      rcases l with _ | ⟨x, l⟩
      · rfl
      · obtain ⟨b, o, e, _⟩ := hr 0 (by simp)
        cases e
    subst hl0
    clear hr
    go_enter Tryd.func36, Tryd.ntmps36
    go_wp2
    go_ret
    exact ⟨none, 0, rfl, row_nil _ _ _ _, Below.refl _ _⟩
  · have hS := Lib.hid (Src.of_reads (hr.below (below_one w (.cells #[] 47 (0, 0)))))
    clear hr
    go_enter Tryd.func36, Tryd.ntmps36
    go_wp2_with (at_builtin
                 refine wpList_app _ rfl (.tmp 5) (.tmp 6) _ rfl w.heap.size _ i0 _ 3 32 Tryd.underlying22 hi hz0 hz1 hz2 rfl (by omega) (.slice (some ⟨w.heap.size, 0, none⟩) 0 0) 0 [] rfl (made_row (Nat.le_refl _) (heap_new _ _)) (some ad) l.length c (encs l) rfl hS.out (by simp only [maxLen]; omega) (by omega) (by rw [World.size_alloc]; omega) ?_
                 intro v1 w1 hown1 hg1 hat1
                 rw [Nat.zero_add, List.nil_append] at hown1
                 have hB1 : Below w.heap.size w w1 := (below_one w _).grown hg1 (below_one w _).size (fun k hk => by simp [Value.ownBlock] at hk; omega)
                 obtain ⟨A1, c1, rfl⟩ := row_slice hown1)
    go_ret
    exact ⟨A1, c1, rfl, hown1, hB1⟩
end Go.Proofs.YtfeaolnklooanaaDoor.Tm
/- joined: a first cell, and terms behind it. -/
namespace Go.Proofs.YtfeaolnklooanaaDoor.Tm
open Go.RowKit
set_option linter.unusedVariables false
set_option linter.unusedSimpArgs false

set_option maxHeartbeats 4000000 in
theorem joined_any (first each last : List CellD) (ls : List (List CellD)) (A B C D : Option Addr) (ca cb cc cd : Nat) (w : World) (hA : Reads w A first) (hB : Reads w B each) (hC : Reads w C last) (hD : Reads2 w D ls)
    (h1 : first.length ≤ 9) (h2 : each.length ≤ 9) (h3 : last.length ≤ 9) (hf : Fine2 ls) (hn : ls.length ≤ 1000000000000000) :
    Calls Tryd.prog 45 #[.slice A first.length ca, .slice B each.length cb, .slice C last.length cc, .slice D ls.length cd] w (IsTermE w (joinE first each last ls)) := by
  have HA := Lib.hid hA
  have HB := Lib.hid hB
  have HC := Lib.hid hC
  have HD := Lib.hid hD
  have HF := Lib.hid hf
  clear hA hB hC hD hf
  go_enter Tryd.func45, Tryd.ntmps45
  go_wp2_with fail
  go_step3
  go_wp2_with fail
  go_step3
  go_wp2_with fail
  go_loop [10, 23] (fun n i => ∃ j : Nat, j ≤ ls.length ∧ i = .int .i64 j ∧ n = .int .i64 ((first.length + last.length + sumL each.length (ls.take j) : Nat) : Int) ∧ first.length + last.length + sumL each.length (ls.take j) ≤ 1024) (fun n i => ls.length - (intOf i).toNat)
  case atStart => exact ⟨0, Nat.zero_le _, rfl, by simp [sumL], by simp [sumL]; omega⟩
  case round =>
    obtain ⟨j, hj, rfl, rfl, hs⟩ := hrel
    by_cases hlt : j < ls.length
    · obtain ⟨b, o, hA, Aj, cj, q0, q1, q2⟩ := HD.out j hlt
      subst hA
      have hi1 : (j : Int) < (ls.length : Int) := by omega
      have hi0 : (0 : Int) ≤ (j : Int) := Int.natCast_nonneg _
      have hfj := (HF.out j hlt).lim
      have hsum := Lib.hid (sumL_take (k := each.length) hlt)
      have hle := sumL_le (k := each.length) (j := j + 1) ls
      rw [hsum.out] at hle
      generalize sumL each.length (ls.take j) = S at *
      by_cases hbig : 1024 < first.length + last.length + (S + (each.length + ls[j].length))
      · have hF := Lib.hid (show joinE first each last ls = ([], 7) by rw [joinE, if_pos (by omega)])
        go_wp2
        go_ret2
        exact ⟨none, 0, by rw [hF.out]; rfl, by rw [hF.out]; exact row_nil _ _ _ _, Below.refl _ _⟩
      · go_wp2
        go_round
        case rel => exact ⟨j + 1, by omega, by go_num, by rw [hsum.out]; go_num, by rw [hsum.out]; omega⟩
        case measure => simp [intOf]; omega
    · have hj' : j = ls.length := by omega
      subst hj'
      rw [List.take_length] at hs
      have hF := Lib.hid (show joinE first each last ls = (first ++ joinL each ls ++ last, 0) by rw [joinE, if_neg (by omega)])
      have hT := Lib.hid (List.take_length (l := ls))
      have hlen := Lib.hid (joinL_length each ls)
      rw [List.take_length]
      generalize hS : sumL each.length ls = S at *
      have HS := Lib.hid hS
      clear hS
      go_wp2_with fail
      refine (clone_any first A ca _ HA.out (by omega)).mono ?_
      rintro e w1 ⟨A1, c1, rfl, hrow1, hB1⟩
      go_wp2_with fail
      go_loopw [13, 43] (fun v i wr => ∃ (j : Nat) (A' : Option Addr) (n c' : Nat), j ≤ ls.length ∧ i = .int .i64 j ∧ v = .slice A' n c' ∧ n = first.length + sumL each.length (ls.take j) ∧ wr.ownsRow w.heap.size 47 3 (.slice A' n c') n (encs (first ++ joinL each (ls.take j))) ∧ Below w.heap.size w wr) (fun v i wr => ls.length - (intOf i).toNat)
      case atStart => exact ⟨0, A1, _, c1, Nat.zero_le _, rfl, rfl, by simp [sumL], by simpa [joinL] using hrow1, hB1⟩
      case round =>
        obtain ⟨j, A', n, c', hj2, rfl, rfl, hn2, hrow, hB⟩ := hrel
        have HN := Lib.hid hn2
        clear hn2
        by_cases hlt2 : j < ls.length
        · obtain ⟨b, o, hD1, Aj, cj, q0, q1, q2⟩ := HD.out j hlt2
          subst hD1
          have q0' := cell_below hB q0
          have q2' := Lib.hid q2
          have hi1 : (j : Int) < (ls.length : Int) := by omega
          have hi0 : (0 : Int) ≤ (j : Int) := Int.natCast_nonneg _
          have hfj := (HF.out j hlt2).lim
          have hsum := Lib.hid (sumL_take (k := each.length) hlt2)
          have hjoin := Lib.hid (joinL_take (each := each) hlt2)
          have hle : n + each.length + ls[j].length ≤ 1024 := by
            have h5 := sumL_le (k := each.length) (j := j + 1) ls
            rw [hsum.out] at h5
            have h6 := HN.out
            have h7 := HS.out
            omega
          have HB' := Lib.hid (HB.out.below hB)
          have HX := Lib.hid (Src.of_reads HB'.out)
          clear q0 q2
          obtain ⟨i0, hi, hz0, hz1, hz2⟩ := info_parts cell_info
          go_wp2_with (first
            | (at_builtin
               refine wpList_app _ rfl (.tmp 47) (.tmp 48) _ rfl w.heap.size _ i0 _ 3 32 Tryd.underlying22 hi hz0 hz1 hz2 rfl (by omega) (.slice A' n c') n _ rfl hrow B each.length cb (encs each) rfl HX.out (by simp only [maxLen]; omega) (by omega) hB.size ?_
               intro v1 w2 hown2 hg2 hat2
               rw [← encs_append] at hown2
               have hB2 : Below w.heap.size w w2 := hB.grown hg2 hB.size (fun k hk => row_base hrow k hk)
               have HY := Lib.hid (Src.of_reads (q2'.out.below hB2))
               obtain ⟨A2, c2, rfl⟩ := row_slice hown2)
            | (at_builtin
               refine wpList_app _ rfl (.tmp 50) (.tmp 51) _ rfl w.heap.size _ i0 _ 3 32 Tryd.underlying22 hi hz0 hz1 hz2 rfl (by omega) (.slice A2 (n + each.length) c2) (n + each.length) _ rfl hown2 Aj ls[j].length cj (encs ls[j]) rfl HY.out (by simp only [maxLen]; omega) (by omega) hB2.size ?_
               intro v3 w3 hown3 hg3 hat3
               rw [← encs_append] at hown3
               have hB3 : Below w.heap.size w w3 := hB2.grown hg3 hB2.size (fun k hk => row_base hown2 k hk)
               obtain ⟨A3, c3, rfl⟩ := row_slice hown3))
          go_roundw
          case rel => exact ⟨j + 1, A3, _, c3, by omega, by go_num, rfl, by rw [HN.out, hsum.out]; omega, by rw [hjoin.out, ← List.append_assoc, ← List.append_assoc]; exact hown3, hB3⟩
          case measure => simp [intOf]; omega
        · obtain rfl : j = ls.length := by omega
          obtain rfl : n = first.length + S := by rw [HN.out, hT.out, HS.out]
          have HX := Lib.hid (Src.of_reads (HC.out.below hB))
          rw [hT.out] at hrow
          obtain ⟨i0, hi, hz0, hz1, hz2⟩ := info_parts cell_info
          go_wp2_with (at_builtin
                       refine wpList_app _ rfl (.tmp 54) (.tmp 55) _ rfl w.heap.size _ i0 _ 3 32 Tryd.underlying22 hi hz0 hz1 hz2 rfl (by omega) (.slice A' (first.length + S) c') (first.length + S) _ rfl hrow C last.length cc (encs last) rfl HX.out (by simp only [maxLen]; omega) (by omega) hB.size ?_
                       intro v1 w2 hown2 hg2 hat2
                       rw [← encs_append] at hown2
                       have hB2 : Below w.heap.size w w2 := hB.grown hg2 hB.size (fun k hk => row_base hrow k hk)
                       obtain ⟨A2, c2, rfl⟩ := row_slice hown2)
          go_ret2
          have hfin : (first ++ joinL each ls ++ last).length = first.length + S + last.length := by rw [List.length_append, List.length_append, hlen.out]
          refine ⟨A2, c2, ?_, ?_, hB2⟩
          · rw [hF.out, hfin]; rfl
          · rw [hF.out]
            show w2.ownsRow _ _ _ (.slice A2 (first ++ joinL each ls ++ last).length c2) (first ++ joinL each ls ++ last).length _
            rw [hfin]; exact hown2
end Go.Proofs.YtfeaolnklooanaaDoor.Tm
/- The order of two cells: the program's 'cells' tells cellCmp. -/
namespace Go.Proofs.YtfeaolnklooanaaDoor.Tm
open Go.RowKit
set_option linter.unusedVariables false
set_option linter.unusedSimpArgs false

theorem compareInt_eq (a b : Int) : Lib.compareInt a b = intCmp a b := by unfold Lib.compareInt intCmp; rfl
theorem compareBytes_eq : ∀ a b, Lib.compareBytes a b = bytesCmp a b
  | [], [] => rfl
  | [], _ :: _ => rfl
  | _ :: _, [] => rfl
  | x :: xs, y :: ys => by
    unfold Lib.compareBytes bytesCmp
    rw [compareBytes_eq xs ys]
set_option maxHeartbeats 1000000 in
theorem cells_any (a b : CellD) (w : World) :
    Calls Tryd.prog 56 #[.agg #[.int .i64 a.kind, .int .i64 a.n, .string a.text], .agg #[.int .i64 b.kind, .int .i64 b.n, .string b.text]] w fun e w' => e = .returned (.int .i64 (cellCmp a b)) ∧ Below w.heap.size w w' := by
  have hB := fun o p => below_alloc' (below_one w o) p
  by_cases hk : a.kind = b.kind
  · by_cases hn : a.n = b.n
    · have H := Lib.hid (cell_text hk hn)
      obtain ⟨k1, n1, t1⟩ := a
      obtain ⟨k2, n2, t2⟩ := b
      simp only at hk hn
      subst hk hn
      have hi : (intCmp n1 n1 != 0) = false := by rw [bne_eq_false_iff_eq]; exact int_eq.2 rfl
      go_enter Tryd.func56, Tryd.ntmps56
      go_wp2_with fail
      refine (Tryd.cmp_Compare_int_f62 _ _ _).mono ?_
      rintro e w' ⟨rfl, rfl⟩
      rw [compareInt_eq]
      go_wp2_with fail
      refine (Tryd.strings_Compare _ _ _).mono ?_
      rintro e w' ⟨rfl, rfl⟩
      go_wp2
      go_ret
      exact ⟨by rw [H.out, compareBytes_eq]; rfl, hB _ _⟩
    · have H := Lib.hid (cell_n hk hn)
      obtain ⟨k1, n1, t1⟩ := a
      obtain ⟨k2, n2, t2⟩ := b
      simp only at hk hn H
      subst hk
      have hi : (intCmp n1 n2 != 0) = true := by rw [bne_iff_ne]; exact fun e => hn (int_eq.1 e)
      go_enter Tryd.func56, Tryd.ntmps56
      go_wp2_with fail
      refine (Tryd.cmp_Compare_int_f62 _ _ _).mono ?_
      rintro e w' ⟨rfl, rfl⟩
      rw [compareInt_eq]
      go_wp2
      go_ret
      exact ⟨by rw [H.out]; rfl, hB _ _⟩
  · have H := Lib.hid (cell_kind hk)
    have hi : (a.kind != b.kind) = true := by rw [bne_iff_ne]; exact hk
    go_enter Tryd.func56, Tryd.ntmps56
    go_wp2_with fail
    refine (Tryd.cmp_Compare_int _ _ _).mono ?_
    rintro e w' ⟨rfl, rfl⟩
    rw [compareInt_eq]
    go_wp2
    go_ret
    exact ⟨by rw [H.out]; rfl, hB _ _⟩
end Go.Proofs.YtfeaolnklooanaaDoor.Tm
/- The order of two terms: the program's 'compare' tells termCmp. -/
namespace Go.Proofs.YtfeaolnklooanaaDoor.Tm
open Go.RowKit
set_option linter.unusedVariables false
set_option linter.unusedSimpArgs false

/-- A label that is jumped back to: what stands ahead of it, what holds at it. -/
theorem wp_label_loop {P : Program} {pre rest : Code} {Q : Exit → Act → World → Prop} {a : Act} {w : World} (l : Nat) (J : Act → World → Prop) (μ : Act → World → Nat) (hp : findLabel pre l = none)
    (first : pre.wp P (fun e a w => e = .normal ∧ J a w) a w)
    (pass : ∀ a w, J a w → rest.wp P (Exit.jump l (fun a' w' => J a' w' ∧ μ a' w' < μ a w) Q) a w) : (Code.scope (pre.seq ((Code.label l).seq rest))).wp P Q a w := by
  have key : ∀ a w, J a w → rest.wp P (Exit.jump l J Q) a w := fun a w hJ => Code.wp_mono (fun e a' w' h => by
    cases e with
    | goto k => exact ⟨h.1, h.2.1⟩
    | _ => exact h) (pass a w hJ)
  refine wp_scope_jumps (rest := .seq .skip rest) l J μ (by simp [findLabel, hp]) ?_ ?_
  · refine wp_seq (Code.wp_mono (fun e a' w' h => ?_) first)
    obtain ⟨rfl, hJ⟩ := h
    exact wp_seq (wp_label (key a' w' hJ))
  · intro a w hJ
    exact wp_seq (wp_skip (pass a w hJ))
theorem cmp_next {l m : List CellD} {j : Nat} (h : j < l.length) (k : j < m.length) (e : cellCmp l[j] m[j] = 0) : termCmp (l.drop j) (m.drop j) = termCmp (l.drop (j + 1)) (m.drop (j + 1)) := by
  rw [List.drop_eq_getElem_cons h, List.drop_eq_getElem_cons k, termCmp, if_neg (by simp [e])]
theorem cmp_here {l m : List CellD} {j : Nat} (h : j < l.length) (k : j < m.length) (e : cellCmp l[j] m[j] ≠ 0) : termCmp (l.drop j) (m.drop j) = cellCmp l[j] m[j] := by
  rw [List.drop_eq_getElem_cons h, List.drop_eq_getElem_cons k, termCmp, if_pos e]
theorem cmp_end {l m : List CellD} {j : Nat} (h : l.length ≤ j ∨ m.length ≤ j) : termCmp (l.drop j) (m.drop j) = 0 := by
  rcases h with h | h
  · rw [List.drop_eq_nil_of_le h, termCmp]; simp
  · rw [List.drop_eq_nil_of_le h]
    cases List.drop j l <;> rw [termCmp] <;> simp
def cmpJ (l m : List CellD) (A B : Option Addr) (c1 c2 : Nat) (w : World) (a' : Act) (w' : World) : Prop :=
  ∃ (j : Nat) (u6 u7 u8 u9 u10 u11 u12 u13 u14 u15 u16 u17 u18 u19 u20 u21 u22 u23 u24 u25 u26 u27 u28 u29 u30 : Value),
    (j ≤ l.length ∧ j ≤ m.length ∧ Below w.heap.size w w' ∧ Hid (termCmp l m = termCmp (l.drop j) (m.drop j))) ∧
    a' = { tmps := #[.slice A l.length c1, .slice B m.length c2, undef, undef, .int .i64 0, .int .i64 j, u6, u7, u8, u9, u10, u11, u12, u13, u14, u15, u16, u17, u18, u19, u20, u21, u22, u23, u24, u25, u26, u27, u28, u29, u30], defers := [] }
set_option maxHeartbeats 2000000 in
theorem compare_any (l m : List CellD) (A B : Option Addr) (c1 c2 : Nat) (w : World) (hr : Reads w A l) (hr2 : Reads w B m) (hl : l.length ≤ 1000000000000000) (hm : m.length ≤ 1000000000000000) :
    Calls Tryd.prog 46 #[.slice A l.length c1, .slice B m.length c2] w fun e w' => e = .returned (.int .i64 (termCmp l m)) ∧ Below w.heap.size w w' := by
  have HR := Lib.hid hr
  have HR2 := Lib.hid hr2
  clear hr hr2
  go_enter Tryd.func46, Tryd.ntmps46
  go_wp2
  refine wp_label_loop 0 (cmpJ l m A B c1 c2 w) (fun a' _ => l.length - (intOf (a'.tmps.getD 5 undef)).toNat) rfl ?_ ?_
  · go_wp2
    exact ⟨0, _, _, _, _, _, _, _, _, _, _, _, _, _, _, _, _, _, _, _, _, _, _, _, _, _, ⟨Nat.zero_le _, Nat.zero_le _, Below.refl _ _, rfl⟩, rfl⟩
  · rintro a' wr ⟨j, u6, u7, u8, u9, u10, u11, u12, u13, u14, u15, u16, u17, u18, u19, u20, u21, u22, u23, u24, u25, u26, u27, u28, u29, u30, ⟨h1, h2, hB, hH⟩, rfl⟩
    by_cases hlt : j < l.length
    · by_cases hlt2 : j < m.length
      · obtain ⟨g1, o1, hA, c1'⟩ := HR.out j hlt
        obtain ⟨g2, o2, hBa, c2'⟩ := HR2.out j hlt2
        subst hA hBa
        obtain ⟨d0, d1, d2⟩ := c1'.below hB
        obtain ⟨e0, e1, e2⟩ := c2'.below hB
        have hi1 : (j : Int) < (l.length : Int) := by omega
        have hi2 : (j : Int) < (m.length : Int) := by omega
        have hi0 : (0 : Int) ≤ (j : Int) := Int.natCast_nonneg _
        have hb1 : decide ((l.length : Int) ≤ (j : Int)) = false := decide_eq_false (by omega)
        have hb2 : decide ((m.length : Int) ≤ (j : Int)) = false := decide_eq_false (by omega)
        have hb3 : decide (l.length ≤ j) = false := decide_eq_false (by omega)
        have hb4 : decide (m.length ≤ j) = false := decide_eq_false (by omega)
        have hN := fun e => Lib.hid (hH.out.trans (cmp_next hlt hlt2 e))
        have hE := fun e => Lib.hid (hH.out.trans (cmp_here hlt hlt2 e))
        clear c1' c2' hH
        generalize l[j] = x at *
        generalize m[j] = y at *
        go_wp2_with fail
        go_region_held3 (fun w' => w'.cell? ⟨g1, o1 + j * 3, none⟩ = some (.int .i64 x.kind) ∧ w'.cell? ⟨g1, o1 + j * 3 + 1, none⟩ = some (.int .i64 x.n) ∧ w'.cell? ⟨g1, o1 + j * 3 + 2, none⟩ = some (.string x.text) ∧
            w'.cell? ⟨g2, o2 + j * 3, none⟩ = some (.int .i64 y.kind) ∧ w'.cell? ⟨g2, o2 + j * 3 + 1, none⟩ = some (.int .i64 y.n) ∧ w'.cell? ⟨g2, o2 + j * 3 + 2, none⟩ = some (.string y.text))
          (first
            | exact ⟨cell_below hb d0, cell_below hb d1, cell_below hb d2, cell_below hb e0, cell_below hb e1, cell_below hb e2⟩
            | go_keep)
          ((go_at_call 56; refine (cells_any x y _).mono ?_; rintro e w' ⟨rfl, hb⟩))
        have hB2 := below_then hB.drew hb
        by_cases he : cellCmp x y = 0
        · have hF := hN he
          have ht : (cellCmp x y != 0) = false := by rw [bne_eq_false_iff_eq]; exact he
          clear hN hE he
          go_wp2
          go_step3
          refine ⟨rfl, ⟨j + 1, _, _, _, _, _, _, _, _, _, _, _, _, _, _, _, _, _, _, _, _, _, _, _, _, _, ⟨by omega, by omega, hB2, hF⟩, rfl⟩, ?_⟩
          simp [intOf]; omega
        · have hF := hE he
          have ht : (cellCmp x y != 0) = true := by rw [bne_iff_ne]; exact he
          clear hN hE he
          go_wp2
          simp only [Exit.jump]
          go_ret
          exact ⟨by rw [hF.out]; rfl, hB2⟩
      · have hF := Lib.hid (hH.out.trans (cmp_end (.inr (Nat.le_of_not_lt hlt2))))
        have hb1 : decide ((l.length : Int) ≤ (j : Int)) = false := decide_eq_false (by omega)
        have hb2 : decide ((m.length : Int) ≤ (j : Int)) = true := decide_eq_true (by omega)
        have hb3 : decide (l.length ≤ j) = false := decide_eq_false (by omega)
        have hb4 : decide (m.length ≤ j) = true := decide_eq_true (by omega)
        clear hH
        go_wp2
        simp only [Exit.jump]
        go_ret
        exact ⟨by rw [hF.out]; rfl, hB⟩
    · have hF := Lib.hid (hH.out.trans (cmp_end (.inl (Nat.le_of_not_lt hlt))))
      have hb1 : decide ((l.length : Int) ≤ (j : Int)) = true := decide_eq_true (by omega)
      have hb3 : decide (l.length ≤ j) = true := decide_eq_true (by omega)
      clear hH
      go_wp2
      simp only [Exit.jump]
      go_ret
      exact ⟨by rw [hF.out]; rfl, hB⟩
end Go.Proofs.YtfeaolnklooanaaDoor.Tm
/- The loops of Right and End, as laws of their specs. Plain lists. -/
namespace Go.Proofs.YtfeaolnklooanaaDoor.Tm
set_option linter.unusedVariables false
set_option linter.unusedSimpArgs false

theorem right_bad {l : List CellD} {j : Nat} {o : Int} (h : j < l.length) (e : cellE l[j] ≠ 0) : rightL (l.drop j) j o = (cellE l[j], (j : Int)) := by
  rw [List.drop_eq_getElem_cons h, rightL, if_pos e]
theorem right_more {l : List CellD} {j : Nat} {o : Int} (h : j < l.length) (e : cellE l[j] = 0) (ho : o = 0) : rightL (l.drop j) j o = (63, (j : Int)) := by
  rw [List.drop_eq_getElem_cons h, rightL, if_neg (by simp [e]), if_pos ho]
theorem right_next {l : List CellD} {j : Nat} {o : Int} (h : j < l.length) (e : cellE l[j] = 0) (ho : o ≠ 0) : rightL (l.drop j) j o = rightL (l.drop (j + 1)) (j + 1) (o - 1 + kidsD l[j]) := by
  rw [List.drop_eq_getElem_cons h, rightL, if_neg (by simp [e]), if_neg ho]
theorem right_short {l : List CellD} {j : Nat} {o : Int} (h : l.length ≤ j) (ho : 0 < o) : rightL (l.drop j) j o = (62, (j : Int)) := by
  rw [List.drop_eq_nil_of_le h, rightL, if_pos ho]
theorem right_done {l : List CellD} {j : Nat} {o : Int} (h : l.length ≤ j) (ho : ¬ 0 < o) : rightL (l.drop j) j o = (0, 0) := by
  rw [List.drop_eq_nil_of_le h, rightL, if_neg ho]
theorem end_done {l : List CellD} {j : Nat} {o : Int} (h : j < l.length) (ho : o - 1 + kidsD l[j] = 0) : endL (l.drop j) j o = ((j : Int) + 1, 0) := by
  rw [List.drop_eq_getElem_cons h, endL, if_pos ho]
theorem end_next {l : List CellD} {j : Nat} {o : Int} (h : j < l.length) (ho : ¬ o - 1 + kidsD l[j] = 0) : endL (l.drop j) j o = endL (l.drop (j + 1)) (j + 1) (o - 1 + kidsD l[j]) := by
  rw [List.drop_eq_getElem_cons h, endL, if_neg ho]
theorem end_short {l : List CellD} {j : Nat} {o : Int} (h : l.length ≤ j) : endL (l.drop j) j o = (0, 62) := by
  rw [List.drop_eq_nil_of_le h, endL]
end Go.Proofs.YtfeaolnklooanaaDoor.Tm
/- How many terms stand behind a cell: both texts. -/
namespace Go.Proofs.YtfeaolnklooanaaDoor.Tm
open Go.RowKit
set_option linter.unusedVariables false
set_option linter.unusedSimpArgs false

theorem behind_any (c : CellD) (w : World) : Calls Tryd.prog 54 #[.agg #[.int .i64 c.kind, .int .i64 c.n, .string c.text]] w fun e w' => e = .returned (.int .i64 (kidsD c)) ∧ Below w.heap.size w w' := by
  by_cases h7 : c.kind = 7
  · have e : kidsD c = 2 := by simp [kidsD, h7]
    have H := Lib.hid e
    clear e
    go_enter Tryd.func54, Tryd.ntmps54
    go_wp2
    go_ret
    exact ⟨by rw [H.out]; rfl, below_one _ _⟩
  · by_cases h5 : c.kind = 5
    · by_cases h0 : 0 ≤ c.n
      · by_cases h1 : c.n ≤ 255
        · have e : (kidsD c : Int) = c.n := by unfold kidsD; rw [if_neg h7, if_pos ⟨h5, h0, h1⟩]; omega
          have H := Lib.hid e
          clear e
          go_enter Tryd.func54, Tryd.ntmps54
          go_wp2
          go_ret
          exact ⟨by rw [H.out]; rfl, below_one _ _⟩
        · have e : kidsD c = 0 := by simp [kidsD, h5, h1]
          have H := Lib.hid e
          clear e
          go_enter Tryd.func54, Tryd.ntmps54
          go_wp2
          go_ret
          exact ⟨by rw [H.out]; rfl, below_one _ _⟩
      · have e : kidsD c = 0 := by simp [kidsD, h5, h0]
        have H := Lib.hid e
        clear e
        go_enter Tryd.func54, Tryd.ntmps54
        go_wp2
        go_ret
        exact ⟨by rw [H.out]; rfl, below_one _ _⟩
    · have e : kidsD c = 0 := by simp [kidsD, h5, h7]
      have H := Lib.hid e
      clear e
      go_enter Tryd.func54, Tryd.ntmps54
      go_wp2
      go_ret
      exact ⟨by rw [H.out]; rfl, below_one _ _⟩
theorem rkids_any (c : CellD) (w : World) : Calls Tryd.prog 44 #[.agg #[.int .i64 c.kind, .int .i64 c.n, .string c.text]] w fun e w' => e = .returned (.int .i64 (kidsD c)) ∧ Below w.heap.size w w' := by
  by_cases h7 : c.kind = 7
  · have e : kidsD c = 2 := by simp [kidsD, h7]
    have H := Lib.hid e
    clear e
    go_enter Tryd.func44, Tryd.ntmps44
    go_wp2
    go_ret
    exact ⟨by rw [H.out]; rfl, below_one _ _⟩
  · by_cases h5 : c.kind = 5
    · by_cases h0 : 0 ≤ c.n
      · by_cases h1 : c.n ≤ 255
        · have e : (kidsD c : Int) = c.n := by unfold kidsD; rw [if_neg h7, if_pos ⟨h5, h0, h1⟩]; omega
          have H := Lib.hid e
          clear e
          go_enter Tryd.func44, Tryd.ntmps44
          go_wp2
          go_ret
          exact ⟨by rw [H.out]; rfl, below_one _ _⟩
        · have e : kidsD c = 0 := by simp [kidsD, h5, h1]
          have H := Lib.hid e
          clear e
          go_enter Tryd.func44, Tryd.ntmps44
          go_wp2
          go_ret
          exact ⟨by rw [H.out]; rfl, below_one _ _⟩
      · have e : kidsD c = 0 := by simp [kidsD, h5, h0]
        have H := Lib.hid e
        clear e
        go_enter Tryd.func44, Tryd.ntmps44
        go_wp2
        go_ret
        exact ⟨by rw [H.out]; rfl, below_one _ _⟩
    · have e : kidsD c = 0 := by simp [kidsD, h5, h7]
      have H := Lib.hid e
      clear e
      go_enter Tryd.func44, Tryd.ntmps44
      go_wp2
      go_ret
      exact ⟨by rw [H.out]; rfl, below_one _ _⟩
end Go.Proofs.YtfeaolnklooanaaDoor.Tm
/- UTF-8: what the model's decoder tells of each class of first bytes. -/
namespace Go.Proofs.YtfeaolnklooanaaDoor.Tm
set_option linter.unusedVariables false
set_option linter.unusedSimpArgs false

def bN (s : ByteArray) (i : Nat) : Nat := (s.get! i).toNat
theorem bN_lt (s : ByteArray) (i : Nat) : bN s i < 256 := (s.get! i).toNat_lt
def contN (s : ByteArray) (i : Nat) : Bool := decide (i < s.size) && decide (bN s i / 64 = 2)
theorem decode_eq (s : ByteArray) (i : Nat) : Utf8.decode s i =
    (if bN s i < 128 then (bN s i, 1)
    else if bN s i / 32 = 6 ∧ contN s (i + 1) = true then
      (if bN s i % 32 * 64 + bN s (i + 1) % 64 ≥ 128 then (bN s i % 32 * 64 + bN s (i + 1) % 64, 2) else (65533, 1))
    else if bN s i / 16 = 14 ∧ contN s (i + 1) = true ∧ contN s (i + 2) = true then
      (if bN s i % 16 * 4096 + bN s (i + 1) % 64 * 64 + bN s (i + 2) % 64 ≥ 2048 ∧ Utf8.valid (bN s i % 16 * 4096 + bN s (i + 1) % 64 * 64 + bN s (i + 2) % 64 : Nat) = true then (bN s i % 16 * 4096 + bN s (i + 1) % 64 * 64 + bN s (i + 2) % 64, 3) else (65533, 1))
    else if bN s i / 8 = 30 ∧ contN s (i + 1) = true ∧ contN s (i + 2) = true ∧ contN s (i + 3) = true then
      (if bN s i % 8 * 262144 + bN s (i + 1) % 64 * 4096 + bN s (i + 2) % 64 * 64 + bN s (i + 3) % 64 ≥ 65536 ∧ Utf8.valid (bN s i % 8 * 262144 + bN s (i + 1) % 64 * 4096 + bN s (i + 2) % 64 * 64 + bN s (i + 3) % 64 : Nat) = true then (bN s i % 8 * 262144 + bN s (i + 1) % 64 * 4096 + bN s (i + 2) % 64 * 64 + bN s (i + 3) % 64, 4) else (65533, 1))
    else (65533, 1)) := by
  unfold Utf8.decode contN bN
  simp only [Utf8.runeError, Nat.add_zero, beq_iff_eq, Bool.and_eq_true, decide_eq_true_eq, and_assoc]
theorem width_pos (s : ByteArray) (i : Nat) : 1 ≤ (Utf8.decode s i).2 := by
  rw [decode_eq]
  repeat' split
  all_goals simp
theorem valid_iff (c : Nat) : Utf8.valid (c : Int) = true ↔ (c < 55296 ∨ (57344 ≤ c ∧ c ≤ 1114111)) := by
  simp [Utf8.valid]; omega
theorem okFrom_end {s : ByteArray} {i : Nat} (h : ¬ i < s.size) : okFrom s i = true := by rw [okFrom, if_neg h]
theorem okFrom_bad {s : ByteArray} {i : Nat} (h : i < s.size) (hb : badAt s i = true) : okFrom s i = false := by rw [okFrom, if_pos h, if_pos hb]
theorem okFrom_next {s : ByteArray} {i : Nat} (h : i < s.size) (hb : badAt s i = false) : okFrom s i = okFrom s (i + (Utf8.decode s i).2) := by
  conv => lhs; rw [okFrom]
  rw [if_pos h, if_neg (by rw [hb]; simp)]
  have := width_pos s i
  rw [Nat.max_eq_right this]
/-- The classes. -/
theorem cls1 {s : ByteArray} {i : Nat} (h : i < s.size) (hb : bN s i < 128) : okFrom s i = okFrom s (i + 1) := by
  have e : Utf8.decode s i = (bN s i, 1) := by rw [decode_eq, if_pos hb]
  rw [okFrom_next h (by unfold badAt; rw [e]; simp; omega), e]
theorem cls_bad {s : ByteArray} {i : Nat} (h : i < s.size) (e : Utf8.decode s i = (65533, 1)) : okFrom s i = false := okFrom_bad h (by unfold badAt; rw [e]; simp)
theorem cls2 {s : ByteArray} {i : Nat} (h : i < s.size) (h0 : 128 ≤ bN s i) (h1 : bN s i < 194) : okFrom s i = false := by
  have hx := bN_lt s (i + 1)
  refine cls_bad h ?_
  rw [decode_eq, if_neg (by omega)]
  split
  · rw [if_neg (by omega)]
  · rw [if_neg (by omega), if_neg (by omega)]
theorem cls6 {s : ByteArray} {i : Nat} (h : i < s.size) (h0 : 245 ≤ bN s i) : okFrom s i = false := by
  have hx := bN_lt s i
  refine cls_bad h ?_
  rw [decode_eq, if_neg (by omega), if_neg (by omega), if_neg (by omega)]
  split
  · rw [if_neg ?_]
    rw [valid_iff]; omega
  · rfl
theorem cls3 {s : ByteArray} {i : Nat} (h : i < s.size) (h0 : 194 ≤ bN s i) (h1 : bN s i < 224) : okFrom s i = (if contN s (i + 1) = true then okFrom s (i + 2) else false) := by
  by_cases c : contN s (i + 1) = true
  · have e : Utf8.decode s i = (bN s i % 32 * 64 + bN s (i + 1) % 64, 2) := by
      rw [decode_eq, if_neg (by omega), if_pos ⟨by omega, c⟩, if_pos (by omega)]
    rw [if_pos c, okFrom_next h (by unfold badAt; rw [e]; simp), e]
  · rw [if_neg c]
    refine cls_bad h ?_
    rw [decode_eq, if_neg (by omega), if_neg (fun hh => c hh.2), if_neg (by omega), if_neg (by omega)]
/-- A rune of three bytes, of four. -/
def r3 (s : ByteArray) (i : Nat) : Nat := bN s i % 16 * 4096 + bN s (i + 1) % 64 * 64 + bN s (i + 2) % 64
def r4 (s : ByteArray) (i : Nat) : Nat := bN s i % 8 * 262144 + bN s (i + 1) % 64 * 4096 + bN s (i + 2) % 64 * 64 + bN s (i + 3) % 64
theorem cls4 {s : ByteArray} {i : Nat} (h : i < s.size) (h0 : 224 ≤ bN s i) (h1 : bN s i < 240) :
    okFrom s i = (if contN s (i + 1) = true then (if contN s (i + 2) = true then (if 2048 ≤ r3 s i ∧ (r3 s i < 55296 ∨ 57344 ≤ r3 s i) then okFrom s (i + 3) else false) else false) else false) := by
  by_cases c1 : contN s (i + 1) = true
  · by_cases c2 : contN s (i + 2) = true
    · rw [if_pos c1, if_pos c2]
      have hr : r3 s i ≤ 65535 := by unfold r3; omega
      by_cases c3 : 2048 ≤ r3 s i ∧ (r3 s i < 55296 ∨ 57344 ≤ r3 s i)
      · have e : Utf8.decode s i = (r3 s i, 3) := by
          rw [decode_eq, if_neg (by omega), if_neg (by omega), if_pos ⟨by omega, c1, c2⟩, if_pos ⟨c3.1, (valid_iff (r3 s i)).2 (by omega)⟩]
          rfl
        rw [if_pos c3, okFrom_next h (by unfold badAt; rw [e]; simp), e]
      · rw [if_neg c3]
        refine cls_bad h ?_
        rw [decode_eq, if_neg (by omega), if_neg (by omega), if_pos ⟨by omega, c1, c2⟩, if_neg]
        rintro ⟨g1, g2⟩
        have := (valid_iff (r3 s i)).1 g2
        have g1' : 2048 ≤ r3 s i := g1
        omega
    · rw [if_pos c1, if_neg c2]
      refine cls_bad h ?_
      rw [decode_eq, if_neg (by omega), if_neg (by omega), if_neg (fun hh => c2 hh.2.2), if_neg (by omega)]
  · rw [if_neg c1]
    refine cls_bad h ?_
    rw [decode_eq, if_neg (by omega), if_neg (by omega), if_neg (fun hh => c1 hh.2.1), if_neg (by omega)]
theorem cls5 {s : ByteArray} {i : Nat} (h : i < s.size) (h0 : 240 ≤ bN s i) (h1 : bN s i < 245) :
    okFrom s i = (if contN s (i + 1) = true then (if contN s (i + 2) = true then (if contN s (i + 3) = true then (if 65536 ≤ r4 s i ∧ r4 s i ≤ 1114111 then okFrom s (i + 4) else false) else false) else false) else false) := by
  have hx : ¬ bN s i < 128 := by omega
  have hy : ¬ (bN s i / 32 = 6 ∧ contN s (i + 1) = true) := by omega
  have hz : ¬ (bN s i / 16 = 14 ∧ contN s (i + 1) = true ∧ contN s (i + 2) = true) := by omega
  by_cases c1 : contN s (i + 1) = true
  · by_cases c2 : contN s (i + 2) = true
    · by_cases c3 : contN s (i + 3) = true
      · rw [if_pos c1, if_pos c2, if_pos c3]
        by_cases c4 : 65536 ≤ r4 s i ∧ r4 s i ≤ 1114111
        · have e : Utf8.decode s i = (r4 s i, 4) := by
            rw [decode_eq, if_neg hx, if_neg hy, if_neg hz, if_pos ⟨by omega, c1, c2, c3⟩, if_pos ⟨c4.1, (valid_iff (r4 s i)).2 (by omega)⟩]
            rfl
          rw [if_pos c4, okFrom_next h (by unfold badAt; rw [e]; simp), e]
        · rw [if_neg c4]
          refine cls_bad h ?_
          rw [decode_eq, if_neg hx, if_neg hy, if_neg hz, if_pos ⟨by omega, c1, c2, c3⟩, if_neg]
          rintro ⟨g1, g2⟩
          have := (valid_iff (r4 s i)).1 g2
          have g1' : 65536 ≤ r4 s i := g1
          omega
      · rw [if_pos c1, if_pos c2, if_neg c3]
        refine cls_bad h ?_
        rw [decode_eq, if_neg hx, if_neg hy, if_neg hz, if_neg (fun hh => c3 hh.2.2.2)]
    · rw [if_pos c1, if_neg c2]
      refine cls_bad h ?_
      rw [decode_eq, if_neg hx, if_neg hy, if_neg hz, if_neg (fun hh => c2 hh.2.2.1)]
  · rw [if_neg c1]
    refine cls_bad h ?_
    rw [decode_eq, if_neg hx, if_neg hy, if_neg hz, if_neg (fun hh => c1 hh.2.1)]
/-- What is decoded of a string's end, cut off. -/
theorem get_lt (s : ByteArray) (k : Nat) (h : k < s.size) : s.get! k = s[k]'h := by
  cases s with
  | mk d => exact getElem!_pos d k h
theorem get_drop (s : ByteArray) (i k : Nat) (h : i + k < s.size) : (s.extract i s.size).get! k = s.get! (i + k) := by
  have h1 : k < (s.extract i s.size).size := by simp; omega
  rw [get_lt _ _ h1, get_lt _ _ h]
  simp [ByteArray.getElem_extract]
theorem get_past (s : ByteArray) (k : Nat) (h : s.size ≤ k) : s.get! k = 0 := by
  cases s with
  | mk d => exact getElem!_neg d k (by have h' : d.size ≤ k := h; omega)
theorem bN_drop (s : ByteArray) (i k : Nat) (hi : i ≤ s.size) : bN (s.extract i s.size) k = bN s (i + k) := by
  unfold bN
  by_cases h : i + k < s.size
  · rw [get_drop s i k h]
  · rw [get_past _ _ (by simp; omega), get_past _ _ (by omega)]
theorem contN_drop (s : ByteArray) (i k : Nat) (hi : i ≤ s.size) : contN (s.extract i s.size) k = contN s (i + k) := by
  unfold contN
  rw [bN_drop s i k hi]
  have e : (s.extract i s.size).size = s.size - i := by simp
  rw [e]
  congr 1
  rw [decide_eq_decide]
  omega
theorem decode_drop (s : ByteArray) (i : Nat) (h : i < s.size) : Utf8.decode (s.extract i s.size) 0 = Utf8.decode s i := by
  rw [decode_eq, decode_eq]
  simp only [Nat.zero_add, bN_drop s i _ (by omega), contN_drop s i _ (by omega), Nat.add_zero]
end Go.Proofs.YtfeaolnklooanaaDoor.Tm
/- UTF-8: the program's 'spelled' and the document's 'utf8' both tell utf8B. -/
namespace Go.Proofs.YtfeaolnklooanaaDoor.Tm
open Go.RowKit
set_option linter.unusedVariables false
set_option linter.unusedSimpArgs false

theorem iterAt_below {w W : World} {s : ByteArray} (h : Below w.heap.size w W) (p' : Nat) (k : Nat) (hk : w.heap.size ≤ k) : Below w.heap.size w (W.iterAt k s p') :=
  ⟨h.os, h.tape, h.output, by simp [World.iterAt]; exact h.size, fun i hi => by
    rw [← h.block i hi]
    simp [World.iterAt, show k ≠ i by omega]⟩
theorem iterAt_self (w : World) (k : Nat) (s : ByteArray) (pos pos' : Nat) (hk : w.heap[k]? = some (.stringIter s pos)) : (w.iterAt k s pos').heap[k]? = some (.stringIter s pos') := by
  have hlt : k < w.heap.size := (Array.getElem?_eq_some_iff.1 hk).1
  simp [World.iterAt, hlt]
set_option maxHeartbeats 1000000 in
theorem spelled_any (s : ByteArray) (w : World) (hs : s.size ≤ 9223372036854775807) (hT : Lib.Utf8Tabs 1 2 w) :
    Calls Tryd.prog 66 #[.string s] w fun e w' => e = .returned (.bool (utf8B s)) ∧ Below w.heap.size w w' := by
  have HT := Lib.hid hT
  clear hT
  have hi0 : (w.iter s 0).heap[w.heap.size]? = some (.stringIter s 0) := heap_new _ _
  have hB0 : Below w.heap.size w (w.iter s 0) := below_one w _
  go_enter Tryd.func66, Tryd.ntmps66
  go_wp2_with fail
  go_loopw [3] (fun _ wr => ∃ p : Nat, wr.heap[w.heap.size]? = some (.stringIter s p) ∧ Below w.heap.size w wr ∧ Hid (utf8B s = okFrom s p)) (fun _ wr => s.size - wr.iterPos w.heap.size)
  case atStart => exact ⟨0, hi0, hB0, rfl⟩
  case round =>
    obtain ⟨p, hp, hB, hE⟩ := hrel
    by_cases hlt : p < s.size
    · have hn := fun ty => Lib.run_next_any_at (P := Tryd.prog) wr w.heap.size s p ty hp hlt
      have hw := width_pos s p
      have hB2 := iterAt_below (s := s) hB (p + (Utf8.decode s p).2) w.heap.size (Nat.le_refl _)
      have hi2 := iterAt_self wr w.heap.size s p (p + (Utf8.decode s p).2) hp
      by_cases hr : (Utf8.decode s p).1 = 65533
      · have hd : Lib.decodeGo (s.extract p s.size) = Utf8.decode s p := by
          unfold Lib.decodeGo
          rw [if_neg (by simp; omega)]
          exact decode_drop s p hlt
        have hT2 := Lib.hid (Utf8Tabs_below HT.out hB2)
        by_cases hk : (Utf8.decode s p).2 = 1
        · have hF := Lib.hid (hE.out.trans (okFrom_bad hlt (by unfold badAt; rw [hr, hk]; simp)))
          generalize Utf8.decode s p = dk at hn hB2 hr hk hd hi2 hT2
          obtain ⟨d1, d2⟩ := dk
          simp only at hn hB2 hr hk hi2 hT2
          subst hr hk
          have HD := Lib.hid hd
          clear hd hE
          go_wp2_with fail
          refine (Tryd.utf8_DecodeRuneInString _ _ hT2.out).mono ?_
          rintro e w' ⟨rfl, hb⟩
          rw [HD.out]
          go_wp2
          go_ret
          exact ⟨by rw [hF.out]; rfl, below_then hB2 hb⟩
        · have hF := Lib.hid (hE.out.trans (okFrom_next hlt (by unfold badAt; simp [hk])))
          generalize Utf8.decode s p = dk at hn hB2 hr hk hd hi2 hT2 hF hw
          obtain ⟨d1, d2⟩ := dk
          simp only at hn hB2 hr hk hi2 hT2 hF hw
          subst hr
          have hkb : ((d2 : Int) == 1) = false := beq_eq_false_iff_ne.2 (by omega)
          have HD := Lib.hid hd
          clear hd hE
          go_wp2_with fail
          refine (Tryd.utf8_DecodeRuneInString _ _ hT2.out).mono ?_
          rintro e w' ⟨rfl, hb⟩
          rw [HD.out]
          have hi3 : w'.heap[w.heap.size]? = some (.stringIter s (p + d2)) := (hb.block _ (lt_of_block hi2)).trans hi2
          go_wp2
          go_roundw
          case rel => exact ⟨p + d2, hi3, below_then hB2 hb, hF⟩
          case measure => rw [iterPos_of hi3, iterPos_of hp]; omega
      · have hF := Lib.hid (hE.out.trans (okFrom_next hlt (by unfold badAt; simp [hr])))
        generalize Utf8.decode s p = dk at hn hB2 hr hi2 hF hw
        obtain ⟨d1, d2⟩ := dk
        simp only at hn hB2 hr hi2 hF hw
        have hkb : ((d1 : Int) == 65533) = false := beq_eq_false_iff_ne.2 (by omega)
        clear hE
        go_wp2
        go_roundw
        case rel => exact ⟨p + d2, hi2, hB2, hF⟩
        case measure => rw [iterPos_of hi2, iterPos_of hp]; omega
    · have hn := fun ty => Lib.run_next_end_at (P := Tryd.prog) wr w.heap.size s p ty hp hlt
      have hF := Lib.hid (hE.out.trans (okFrom_end hlt))
      go_wp2
      go_ret
      exact ⟨by rw [hF.out]; rfl, hB⟩
end Go.Proofs.YtfeaolnklooanaaDoor.Tm
