/- layer 13: the live pids of a table, rising: plain lists. -/
import Derived.Test.YtofpbiadnbbaoaaIdA
namespace Go.Proofs.Ytofpbiadnbbaoaa.Ids
set_option linter.unusedVariables false
set_option linter.unusedSimpArgs false

/-- x is the pid of one of the first k places, which is taken. -/
def IsPid (l : List (Int × Bool)) (k : Nat) (x : Int) : Prop := ∃ j, ∃ h : j < l.length, j < k ∧ (l[j]).2 = true ∧ x = (l[j]).1 * 64 + j + 1
/-- What holds of a table that is used. -/
structure PInv (l : List (Int × Bool)) : Prop where
  len : l.length = 64
  pos : ∀ p ∈ l, 0 ≤ p.1
  top : ∀ p ∈ l, p.1 ≤ 17179869184
  live : ∀ p ∈ l, p.2 = true → p.1 ≤ 17179869183

def Rising : List Int → Prop
  | [] => True
  | x :: l => (∀ y ∈ l, x < y) ∧ Rising l
theorem Rising.snoc : ∀ {l : List Int} {x : Int}, Rising l → (∀ y ∈ l, y < x) → Rising (l ++ [x])
  | [], x, _, _ => ⟨fun y h => absurd h (by simp), trivial⟩
  | a :: l, x, h, hx => ⟨fun y hy => by
      rcases List.mem_append.1 hy with h1 | h1
      · exact h.1 y h1
      · simp at h1; subst h1; exact hx a (by simp), Rising.snoc h.2 (fun y hy => hx y (by simp [hy]))⟩
theorem Rising.ext : ∀ {a b : List Int}, Rising a → Rising b → (∀ x, x ∈ a ↔ x ∈ b) → a = b
  | [], [], _, _, _ => rfl
  | [], y :: b, _, _, h => absurd ((h y).2 (by simp)) (by simp)
  | x :: a, [], _, _, h => absurd ((h x).1 (by simp)) (by simp)
  | x :: a, y :: b, ha, hb, h => by
    have e : x = y := by
      have h1 : x ∈ y :: b := (h x).1 (by simp)
      have h2 : y ∈ x :: a := (h y).2 (by simp)
      rcases List.mem_cons.1 h1 with h3 | h3
      · exact h3
      rcases List.mem_cons.1 h2 with h4 | h4
      · exact h4.symm
      have := hb.1 x h3
      have := ha.1 y h4
      omega
    subst e
    have : a = b := Rising.ext ha.2 hb.2 (fun z => by
      constructor
      · intro hz
        have h1 := (h z).1 (by simp [hz])
        rcases List.mem_cons.1 h1 with rfl | h3
        · have := ha.1 z hz; omega
        · exact h3
      · intro hz
        have h1 := (h z).2 (by simp [hz])
        rcases List.mem_cons.1 h1 with rfl | h3
        · have := hb.1 z hz; omega
        · exact h3)
    rw [this]

/-- All live pids, rising; a begin of them. -/
structure AllOf (l : List (Int × Bool)) (xs : List Int) : Prop where
  room : xs.length ≤ 64
  up : Rising xs
  mem : ∀ x, x ∈ xs ↔ IsPid l 64 x
structure Begin (l : List (Int × Bool)) (xs : List Int) : Prop where
  up : Rising xs
  mem : ∀ x ∈ xs, IsPid l 64 x
  low : ∀ x, IsPid l 64 x → ∀ y ∈ xs, x ≤ y → x ∈ xs
theorem AllOf.unique {l : List (Int × Bool)} {a b : List Int} (h : AllOf l a) (k : AllOf l b) : a = b := Rising.ext h.up k.up (fun x => (h.mem x).trans (k.mem x).symm)
theorem Begin.prefix {l : List (Int × Bool)} : ∀ {a b : List Int}, Rising a → Rising b → (∀ x ∈ a, x ∈ b) → (∀ x ∈ b, ∀ y ∈ a, x ≤ y → x ∈ a) → a <+: b
  | [], b, _, _, _, _ => ⟨b, rfl⟩
  | x :: a, [], _, _, h, _ => absurd (h x (by simp)) (by simp)
  | x :: a, y :: b, ha, hb, h, hl => by
    have e : x = y := by
      have h1 : x ∈ y :: b := h x (by simp)
      rcases List.mem_cons.1 h1 with h3 | h3
      · exact h3
      have h5 := hb.1 x h3
      have h4 := hl y (by simp) x (by simp) (by omega)
      rcases List.mem_cons.1 h4 with h4 | h4
      · exact h4.symm
      have := ha.1 y h4
      omega
    subst e
    have := Begin.prefix (l := l) ha.2 hb.2 (fun z hz => by
        rcases List.mem_cons.1 (h z (by simp [hz])) with rfl | h3
        · have := ha.1 z hz; omega
        · exact h3) (fun z hz w hw hzw => by
        have h1 := hb.1 z hz
        rcases List.mem_cons.1 (hl z (by simp [hz]) w (by simp [hw]) hzw) with rfl | h3
        · omega
        · exact h3)
    exact List.prefix_cons_inj x |>.2 this
theorem Begin.of_all {l : List (Int × Bool)} {a b : List Int} (h : Begin l a) (k : AllOf l b) : a <+: b :=
  Begin.prefix (l := l) h.up k.up (fun x hx => (k.mem x).2 (h.mem x hx)) (fun x hx y hy hxy => h.low x ((k.mem x).1 hx) y hy hxy)

/-- The inner loop's best after k places. -/
structure Best (l : List (Int × Bool)) (last : Int) (k : Nat) (b : Int) : Prop where
  is : b = 0 ∨ (IsPid l k b ∧ last < b)
  least : ∀ x, IsPid l k x → last < x → b ≠ 0 ∧ b ≤ x
theorem Best.start (l : List (Int × Bool)) (last : Int) : Best l last 0 0 := ⟨.inl rfl, fun x ⟨j, _, h, _⟩ => absurd h (Nat.not_lt_zero j)⟩
theorem IsPid.succ {l : List (Int × Bool)} {k : Nat} {x : Int} (h : IsPid l k x) : IsPid l (k + 1) x := by
  obtain ⟨j, hj, hk, r⟩ := h
  exact ⟨j, hj, by omega, r⟩
theorem IsPid.cases {l : List (Int × Bool)} {k : Nat} {x : Int} (h : IsPid l (k + 1) x) : IsPid l k x ∨ ∃ hk : k < l.length, (l[k]).2 = true ∧ x = (l[k]).1 * 64 + k + 1 := by
  obtain ⟨j, hj, hk, r⟩ := h
  by_cases e : j < k
  · exact .inl ⟨j, hj, e, r⟩
  · obtain rfl : j = k := by omega
    exact .inr ⟨hj, r⟩
theorem IsPid.pos {l : List (Int × Bool)} (hp : ∀ p ∈ l, 0 ≤ p.1) {k : Nat} {x : Int} (h : IsPid l k x) : 1 ≤ x := by
  obtain ⟨j, hj, _, _, rfl⟩ := h
  have := hp _ (List.getElem_mem hj)
  omega
theorem Best.skip {l : List (Int × Bool)} {last : Int} {k : Nat} {b : Int} (h : Best l last k b) (hk : k < l.length)
    (hs : (l[k]).2 = false ∨ (l[k]).1 * 64 + k + 1 ≤ last ∨ (b ≠ 0 ∧ b ≤ (l[k]).1 * 64 + k + 1)) : Best l last (k + 1) b :=
  ⟨h.is.imp id (fun ⟨a, c⟩ => ⟨a.succ, c⟩), fun x hx hl => by
    rcases hx.cases with h1 | ⟨_, h2, rfl⟩
    · exact h.least x h1 hl
    · rcases hs with e | e | e
      · rw [e] at h2; exact absurd h2 (by simp)
      · omega
      · exact e⟩
theorem Best.take {l : List (Int × Bool)} (hp : ∀ p ∈ l, 0 ≤ p.1) {last : Int} {k : Nat} {b : Int} (h : Best l last k b) (hk : k < l.length)
    (h1 : (l[k]).2 = true) (h2 : last < (l[k]).1 * 64 + k + 1) (h3 : b = 0 ∨ (l[k]).1 * 64 + k + 1 < b) : Best l last (k + 1) ((l[k]).1 * 64 + k + 1) :=
  ⟨.inr ⟨⟨k, hk, by omega, h1, rfl⟩, h2⟩, fun x hx hl => by
    have hg := hp _ (List.getElem_mem hk)
    refine ⟨by omega, ?_⟩
    rcases hx.cases with h5 | ⟨_, _, rfl⟩
    · have := h.least x h5 hl
      omega
    · omega⟩

/-- How many live pids are above a number. -/
def above (l : List (Int × Bool)) (last : Int) : Nat := ((List.range 64).filter fun (j : Nat) => (l[j]?).any fun (p : Int × Bool) => p.2 && decide (last < p.1 * 64 + (j : Int) + 1)).length
theorem above_le (l : List (Int × Bool)) (last : Int) : above l last ≤ 64 := by
  unfold above
  exact Nat.le_trans (List.length_filter_le _ _) (by simp)
theorem filter_lt {α : Type} {p q : α → Bool} : ∀ {l : List α}, (∀ x ∈ l, p x = true → q x = true) → ∀ y ∈ l, q y = true → p y = false → (l.filter p).length < (l.filter q).length
  | [], _, y, hy, _, _ => absurd hy (by simp)
  | a :: l, h, y, hy, h1, h2 => by
    have hle : (l.filter p).length ≤ (l.filter q).length := by
      have : ∀ l : List α, (∀ x ∈ l, p x = true → q x = true) → (l.filter p).length ≤ (l.filter q).length := by
        intro l
        induction l with
        | nil => intro _; simp
        | cons b l ih =>
          intro hb
          have := ih (fun x hx => hb x (by simp [hx]))
          have hb' := hb b (by simp)
          cases e : p b <;> cases e' : q b <;> simp [List.filter_cons, e, e'] <;> first | omega | (rw [e, e'] at hb'; simp at hb')
      exact this l (fun x hx => h x (by simp [hx]))
    rcases List.mem_cons.1 hy with rfl | hy'
    · simp [List.filter_cons, h1, h2]; omega
    · have ih := filter_lt (fun x hx => h x (by simp [hx])) y hy' h1 h2
      have ha := h a (by simp)
      cases e : p a <;> cases e' : q a <;> simp [List.filter_cons, e, e'] <;> first | omega | (rw [e, e'] at ha; simp at ha)
theorem above_lt {l : List (Int × Bool)} {last b : Int} (hb : IsPid l 64 b) (h : last < b) : above l b < above l last := by
  obtain ⟨j, hj, hk, ht, rfl⟩ := hb
  unfold above
  refine filter_lt (fun x _ hx => ?_) j (by simp; exact hk) ?_ ?_
  · cases e : l[x]? with
    | none => rw [e] at hx; simp at hx
    | some p => rw [e] at hx; simp at hx ⊢; exact ⟨hx.1, by omega⟩
  · rw [List.getElem?_eq_getElem hj]; simp [ht]; exact h
  · rw [List.getElem?_eq_getElem hj]; simp

/-- Between two rounds of the outer loop. -/
structure Mid (l : List (Int × Bool)) (last : Int) (pre : List Int) : Prop where
  beg : Begin l pre
  le : ∀ y ∈ pre, y ≤ last
  all : ∀ x, IsPid l 64 x → x ≤ last → x ∈ pre
  room : pre.length + above l last ≤ 64
theorem Mid.start {l : List (Int × Bool)} (hp : ∀ p ∈ l, 0 ≤ p.1) : Mid l 0 [] :=
  ⟨⟨trivial, by simp, by simp⟩, by simp, fun x hx h => by have := hx.pos hp; omega, by have := above_le l 0; simp; omega⟩
theorem Mid.step {l : List (Int × Bool)} {last b : Int} {pre : List Int} (h : Mid l last pre) (hb : Best l last 64 b) (h0 : b ≠ 0) : Mid l b (pre ++ [b]) := by
  obtain ⟨hi, hl⟩ := hb.is.resolve_left h0
  have hr := above_lt hi hl
  refine ⟨⟨h.beg.up.snoc (fun y hy => by have := h.le y hy; omega), fun x hx => ?_, fun x hx y hy hxy => ?_⟩, fun y hy => ?_, fun x hx hxb => ?_, by have := h.room; simp; omega⟩
  · rcases List.mem_append.1 hx with h1 | h1
    · exact h.beg.mem x h1
    · simp at h1; subst h1; exact hi
  · rcases List.mem_append.1 hy with h1 | h1
    · exact List.mem_append_left _ (h.beg.low x hx y h1 hxy)
    · simp at h1; subst h1
      by_cases e : x ≤ last
      · exact List.mem_append_left _ (h.all x hx e)
      · have := (hb.least x hx (by omega)).2
        exact List.mem_append_right _ (by simp; omega)
  · rcases List.mem_append.1 hy with h1 | h1
    · have := h.le y h1; omega
    · simp at h1; omega
  · by_cases e : x ≤ last
    · exact List.mem_append_left _ (h.all x hx e)
    · have := (hb.least x hx (by omega)).2
      exact List.mem_append_right _ (by simp; omega)
theorem Mid.done {l : List (Int × Bool)} {last : Int} {pre : List Int} (h : Mid l last pre) (hb : Best l last 64 0) : AllOf l pre :=
  ⟨by have := h.room; omega, h.beg.up, fun x => ⟨h.beg.mem x, fun hx => h.all x hx (by
    rcases Int.lt_or_le last x with e | e
    · exact absurd rfl (hb.least x hx e).1
    · exact e)⟩⟩
theorem Mid.lt {l : List (Int × Bool)} {last b : Int} {pre : List Int} (h : Mid l last pre) (hb : Best l last 64 b) (h0 : b ≠ 0) : pre.length < 64 ∧ above l b < above l last := by
  obtain ⟨hi, hl⟩ := hb.is.resolve_left h0
  have hr := above_lt hi hl
  have := h.room
  exact ⟨by omega, hr⟩
end Go.Proofs.Ytofpbiadnbbaoaa.Ids
