/- The arena as plain data. -/
import Derived.Test.YthgnihckeckaiaaDoorBase
namespace Go.Proofs.YthgnihckeckaiaaDoor.Tm
set_option linter.unusedVariables false
set_option linter.unusedSimpArgs false

def hdW (a : Int) : Bool := a == 1 || a == 2 || a == 3 || a == 4 || a == 5 || a == 8
/-- What kind of word. -/
def kdW (a : Int) : Int :=
  if a % 16 = 1 then 1 else if a % 16 = 2 then (if a / 16 = 0 then 2 else 0) else if a % 16 = 3 then (if a / 16 < 262144 then 3 else 0)
  else if a % 16 = 4 then (if a / 16 < 262144 then 4 else 0) else if a % 16 = 15 then (if hdW (a / 16 % 16) = true ∧ a / 256 ≤ 262144 then 5 else 0) else 0
def smallI (n : Int) : Prop := -576460752303423488 ≤ n ∧ n < 576460752303423488
instance (n : Int) : Decidable (smallI n) := inferInstanceAs (Decidable (_ ∧ _))
/-- A small number's word. -/
def intW (n : Int) : Int := n % 1152921504606846976 * 16 + 1
/-- .., read back. -/
def valW (x : Int) : Int := (x + 9223372036854775808) / 16 % 1152921504606846976 - 576460752303423488
theorem valW_intW (n : Int) (h : smallI n) : valW (intW n) = n := by
  obtain ⟨g0, g1⟩ := h
  unfold valW intW; omega
theorem kdW_intW (n : Int) : kdW (intW n) = 1 := by unfold kdW intW; rw [if_pos (by omega)]
def plainK (k : Int) : Nat := if k = 1 ∨ k = 3 ∨ k = 4 ∨ k = 7 then 2 else if k = 2 ∨ k = 5 ∨ k = 8 then 1 else 0
/-- A cell that has a word of every arena. -/
def SmallC (c : CellD) : Prop := c.kind = 6 ∨ c.kind = 1 ∧ smallI c.n
instance (c : CellD) : Decidable (SmallC c) := inferInstanceAs (Decidable (_ ∨ _))
/-- The cells that a cell's object takes. -/
def costC (c : CellD) : Nat := if c.kind = 1 ∧ smallI c.n then 0 else plainK c.kind + (if c.kind = 5 then c.n.toNat else 0) + (c.text.size + 7) / 8
theorem cellE_text {c : CellD} (h : cellE c = 0) : c.text.size = 0 ∨ (c.kind = 2 ∧ c.text.size ≤ 255) ∨ (c.kind = 8 ∧ c.text.size ≤ 1024) := by
  unfold cellE at h
  repeat' split at h
  all_goals first | (exfalso; omega) | omega
theorem cellE_kind {c : CellD} (h : cellE c = 0) : 1 ≤ c.kind ∧ c.kind ≤ 8 := by
  unfold cellE at h
  repeat' split at h
  all_goals first | (exfalso; omega) | omega
theorem cellE_tuple {c : CellD} (h : cellE c = 0) (hk : c.kind = 5) : 0 ≤ c.n ∧ c.n ≤ 255 := by
  unfold cellE at h
  repeat' split at h
  all_goals first | (exfalso; omega) | omega
theorem cost_pos {c : CellD} (h : cellE c = 0) (hs : ¬ SmallC c) : 1 ≤ costC c := by
  have hk := cellE_kind h
  unfold costC plainK
  unfold SmallC at hs
  have h6 : c.kind ≠ 6 := fun e => hs (.inl e)
  rw [if_neg (fun e => hs (.inr e))]
  split <;> (try split) <;> omega
theorem cost_le {c : CellD} (h : cellE c = 0) : costC c ≤ 129 + kidsD c := by
  have hk := cellE_kind h
  have ht := cellE_text h
  unfold costC
  split
  · omega
  · by_cases h5 : c.kind = 5
    · have hn := cellE_tuple h h5
      have e1 : plainK c.kind = 1 := by unfold plainK; rw [if_neg (by omega), if_pos (by omega)]
      have e2 : kidsD c = c.n.toNat := by unfold kidsD; rw [if_neg (by omega), if_pos ⟨h5, by omega, by omega⟩]
      rw [if_pos h5, e1, e2]
      omega
    · rw [if_neg h5]
      unfold plainK
      split <;> (try split) <;> omega
theorem cost_small {c : CellD} (h : cellE c = 0) (hs : SmallC c) : costC c = 0 := by
  unfold costC
  rcases hs with hs | hs
  · have ht := cellE_text h
    rw [if_neg (by omega), if_neg (by omega)]
    unfold plainK
    rw [if_neg (by omega), if_neg (by omega)]
    omega
  · rw [if_pos hs]
structure ObjA where
  cell : CellD
  parts : List Int
  size : Nat
def usedA (l : List ObjA) : Nat := (l.map fun o => costC o.cell).sum
def wordAt (c : CellD) (p : Nat) : Int := (p : Int) * 16 + if c.kind = 7 then 3 else 4
def wordsA : Nat → List ObjA → List Int
  | _, [] => []
  | p, o :: l => wordAt o.cell p :: wordsA (p + costC o.cell) l
theorem usedA_snoc (l : List ObjA) (o : ObjA) : usedA (l ++ [o]) = usedA l + costC o.cell := by simp [usedA]
theorem usedA_cons (a : ObjA) (l : List ObjA) : usedA (a :: l) = costC a.cell + usedA l := by simp [usedA]
theorem wordsA_len : ∀ (p : Nat) (l : List ObjA), (wordsA p l).length = l.length
  | _, [] => rfl
  | p, o :: l => by rw [wordsA, List.length_cons, wordsA_len, List.length_cons]
theorem wordsA_snoc : ∀ (p : Nat) (l : List ObjA) (o : ObjA), wordsA p (l ++ [o]) = wordsA p l ++ [wordAt o.cell (p + usedA l)]
  | p, [], o => by simp [wordsA, usedA]
  | p, a :: l, o => by
    rw [List.cons_append, wordsA, wordsA_snoc, wordsA, List.cons_append]
    have e : p + costC a.cell + usedA l = p + usedA (a :: l) := by simp [usedA]; omega
    rw [e]
theorem wordsA_range : ∀ (p : Nat) (l : List ObjA) (x : Int), p + usedA l ≤ 262144 → x ∈ wordsA p l → 0 ≤ x ∧ x < 18446744073709551616
  | _, [], x, _, h => by cases h
  | p, o :: l, x, hp, h => by
    rw [usedA_cons] at hp
    rcases List.mem_cons.1 h with rfl | h
    · unfold wordAt
      split <;> omega
    · exact wordsA_range _ l x (by omega) h
/-- Which object begins at a place. -/
def idxOf : Nat → List ObjA → Int → Option Nat
  | _, [], _ => none
  | p, o :: l, a => if a = (p : Int) then some 0 else (idxOf (p + costC o.cell) l a).map (· + 1)
theorem idxOf_lt : ∀ (p : Nat) (l : List ObjA) (a : Int) (k : Nat), idxOf p l a = some k → k < l.length
  | _, [], _, _, h => by cases h
  | p, o :: l, a, k, h => by
    unfold idxOf at h
    split at h
    · cases h; simp
    · cases e : idxOf (p + costC o.cell) l a with
      | none => rw [e] at h; cases h
      | some j => rw [e] at h; cases h; have := idxOf_lt _ _ _ _ e; simp; omega
theorem idxOf_snoc_some : ∀ (p : Nat) (l : List ObjA) (o : ObjA) (a : Int) (k : Nat), idxOf p l a = some k → idxOf p (l ++ [o]) a = some k
  | _, [], _, _, _, h => by cases h
  | p, x :: l, o, a, k, h => by
    rw [List.cons_append]
    unfold idxOf at h ⊢
    split at h
    · rename_i e; rw [if_pos e]; exact h
    · rename_i e
      rw [if_neg e]
      cases e : idxOf (p + costC x.cell) l a with
      | none => rw [e] at h; cases h
      | some j => rw [e] at h; rw [idxOf_snoc_some _ _ o _ _ e]; exact h
theorem idxOf_new : ∀ (p : Nat) (l : List ObjA) (o : ObjA), (∀ x ∈ l, 1 ≤ costC x.cell) → idxOf p (l ++ [o]) ((p + usedA l : Nat) : Int) = some l.length ∧ idxOf p l ((p + usedA l : Nat) : Int) = none
  | p, [], o, _ => by simp [idxOf, usedA]
  | p, x :: l, o, h => by
    have h1 := h x (by simp)
    have e : p + usedA (x :: l) = p + costC x.cell + usedA l := by rw [usedA_cons]; omega
    obtain ⟨i1, i2⟩ := idxOf_new (p + costC x.cell) l o (fun y hy => h y (by simp [hy]))
    rw [List.cons_append]
    unfold idxOf
    rw [if_neg (by rw [usedA_cons]; omega), if_neg (by rw [usedA_cons]; omega), e, i1, i2]
    simp
/-- Which object a word names; -1: none, as a small number or Nil. -/
def findA (l : List ObjA) (w : Int) : Option Int :=
  if kdW w = 1 ∨ kdW w = 2 then some (-1) else if kdW w = 3 ∨ kdW w = 4 then (match idxOf 0 l (w / 16) with
    | some k => if (wordsA 0 l)[k]? = some w then some (k : Int) else none
    | none => none) else none
theorem findA_lt {l : List ObjA} {w k : Int} (h : findA l w = some k) : -1 ≤ k ∧ k < l.length := by
  unfold findA at h
  split at h
  · cases h; omega
  · split at h
    · split at h
      · rename_i j e
        split at h
        · cases h; have := idxOf_lt _ _ _ _ e; omega
        · cases h
      · cases h
    · cases h
theorem findA_snoc {l : List ObjA} {w k : Int} (o : ObjA) (h : findA l w = some k) : findA (l ++ [o]) w = some k := by
  unfold findA at h ⊢
  split at h
  · rename_i e; rw [if_pos e]; exact h
  · rename_i e
    rw [if_neg e]
    split at h
    · rename_i e2
      rw [if_pos e2]
      split at h
      · rename_i j ej
        rw [idxOf_snoc_some _ _ o _ _ ej]
        split at h
        · rename_i ew
          simp only
          rw [wordsA_snoc, List.getElem?_append_left (by rw [wordsA_len]; exact idxOf_lt _ _ _ _ ej), if_pos ew]
          exact h
        · cases h
      · cases h
    · cases h
theorem kdW_wordAt {c : CellD} {p : Nat} (h : p < 262144) : kdW (wordAt c p) = (if c.kind = 7 then 3 else 4) := by
  unfold wordAt
  split
  · unfold kdW
    rw [if_neg (by omega), if_neg (by omega), if_pos (by omega), if_pos (by omega)]
  · unfold kdW
    rw [if_neg (by omega), if_neg (by omega), if_neg (by omega), if_pos (by omega), if_pos (by omega)]
theorem wordAt_div {c : CellD} {p : Nat} : wordAt c p / 16 = p := by
  unfold wordAt
  split <;> omega
theorem findA_new {l : List ObjA} (o : ObjA) (hc : ∀ x ∈ l, 1 ≤ costC x.cell) (hu : usedA l < 262144) : findA (l ++ [o]) (wordAt o.cell (usedA l)) = some (l.length : Int) := by
  unfold findA
  have hk := kdW_wordAt (c := o.cell) hu
  obtain ⟨i1, _⟩ := idxOf_new 0 l o hc
  rw [Nat.zero_add] at i1
  rw [wordAt_div, i1]
  have hk' : kdW (wordAt o.cell (usedA l)) = 3 ∨ kdW (wordAt o.cell (usedA l)) = 4 := by rw [hk]; split <;> simp
  rw [if_neg (by omega), if_pos hk']
  simp only
  rw [if_pos]
  rw [wordsA_snoc, List.getElem?_append_right (by rw [wordsA_len]; exact Nat.le_refl _), wordsA_len, Nat.sub_self, Nat.zero_add]
  rfl
def sizeA (l : List ObjA) (w : Int) : Nat := match findA l w with
  | some k => if k < 0 then 1 else ((l[k.toNat]?).map ObjA.size).getD 1
  | none => 1
def sizesF (l : List ObjA) (s : Nat) (parts : List Int) : Nat := parts.foldl (fun s p => min (s + sizeA l p) 1025) s
def sizesA (l : List ObjA) (parts : List Int) : Nat := sizesF l 1 parts
theorem sizeA_snoc {l : List ObjA} {w k : Int} (o : ObjA) (h : findA l w = some k) : sizeA (l ++ [o]) w = sizeA l w := by
  have hk := findA_lt h
  unfold sizeA
  rw [findA_snoc o h, h]
  simp only
  split
  · rfl
  · rw [List.getElem?_append_left (by omega)]
/-- An object behind the others, if the cell is no small one: and its word. -/
def makeA (l : List ObjA) (c : CellD) (parts : List Int) : List ObjA × Int :=
  if c.kind = 6 then (l, 2) else if c.kind = 1 ∧ smallI c.n then (l, intW c.n) else (l ++ [⟨c, parts, sizesA l parts⟩], wordAt c (usedA l))
/-- What an object that stands is. -/
structure OkObj (l : List ObjA) (o : ObjA) : Prop where
  good : cellE o.cell = 0
  big : ¬ SmallC o.cell
  kids : o.parts.length = kidsD o.cell
  parts : ∀ p ∈ o.parts, (findA l p).isSome = true ∧ 0 ≤ p ∧ p < 18446744073709551616
  size : o.size = sizesA l o.parts
def WfA (l : List ObjA) : Prop := ∀ i (h : i < l.length), OkObj (l.take i) l[i]
theorem WfA.nil : WfA [] := fun i h => absurd h (Nat.not_lt_zero i)
theorem WfA.snoc {l : List ObjA} {o : ObjA} (h : WfA l) (ho : OkObj l o) : WfA (l ++ [o]) := fun i hi => by
  rw [List.length_append, List.length_singleton] at hi
  by_cases h1 : i < l.length
  · rw [List.getElem_append_left h1, List.take_append_of_le_length (by omega)]
    exact h i h1
  · obtain rfl : i = l.length := by omega
    rw [List.take_left' rfl]
    simpa using ho
theorem WfA.cost {l : List ObjA} (h : WfA l) : ∀ x ∈ l, 1 ≤ costC x.cell := fun x hx => by
  obtain ⟨i, hi, rfl⟩ := List.mem_iff_getElem.1 hx
  exact cost_pos (h i hi).good (h i hi).big
theorem cost_len : ∀ (l : List ObjA), (∀ x ∈ l, 1 ≤ costC x.cell) → l.length ≤ usedA l
  | [], _ => Nat.zero_le _
  | a :: l, h => by
    have := cost_len l (fun x hx => h x (by simp [hx]))
    have := h a (by simp)
    rw [usedA_cons, List.length_cons]; omega
theorem WfA.len {l : List ObjA} (h : WfA l) : l.length ≤ usedA l := cost_len l h.cost
structure OpenA where
  cell : CellD
  parts : List Int
  want : Nat
/-- What is open takes a word; what is whole is made. -/
def upA : List ObjA → List OpenA → Int → List ObjA × List OpenA × Int
  | l, [], w => (l, [], w)
  | l, o :: st, w => if o.parts.length + 1 < o.want then (l, ⟨o.cell, o.parts ++ [w], o.want⟩ :: st, w) else upA (makeA l o.cell (o.parts ++ [w])).1 st (makeA l o.cell (o.parts ++ [w])).2
def putStep (s : List ObjA × List OpenA × Int) (c : CellD) : List ObjA × List OpenA × Int :=
  if 0 < kidsD c then (s.1, ⟨c, [], kidsD c⟩ :: s.2.1, s.2.2) else upA (makeA s.1 c []).1 s.2.1 (makeA s.1 c []).2
def totalA (t : List CellD) : Nat := (t.map costC).sum
end Go.Proofs.YthgnihckeckaiaaDoor.Tm
