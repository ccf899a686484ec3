/- Opposite tests, what a guard asks: plain lists. -/
import Derived.Test.YtefpolgflimlgaaDoorGHolds
namespace Go.Proofs.YtefpolgflimlgaaDoor.Tm
set_option linter.unusedVariables false
set_option linter.unusedSimpArgs false

theorem any_snoc {α : Type} {f : α → Bool} {p : List α} {j : Nat} (h : j < p.length) : (p.take (j + 1)).any f = ((p.take j).any f || f p[j]) := by
  rw [List.take_succ_eq_append_getElem h, List.any_append]; simp
theorem any_at {α : Type} {f : α → Bool} {p : List α} {j : Nat} (h : j < p.length) (k : f p[j] = true) : p.any f = true := List.any_eq_true.2 ⟨p[j], List.getElem_mem h, k⟩
def flipOp (op : Int) : Int := if op = 1 then 2 else if op = 2 then 1 else if op = 3 then 6 else if op = 6 then 3 else if op = 4 then 5 else 4
def notT (t : TestD) : TestD := ⟨flipOp t.op, t.a, t.b⟩
def zeroT : TestD := ⟨0, noArg, noArg⟩
def notE (t : TestD) : TestD × Bool := if testB t = true ∧ t.op ≤ 6 then (notT t, true) else (zeroT, false)
theorem notE_yes {t : TestD} (h : testB t = true) (k : t.op ≤ 6) : notE t = (notT t, true) := by rw [notE, if_pos ⟨h, k⟩]
theorem notE_no {t : TestD} (h : testB t = false) : notE t = (zeroT, false) := by rw [notE, if_neg (by simp [h])]
theorem notE_one {t : TestD} (k : 6 < t.op) : notE t = (zeroT, false) := by rw [notE, if_neg (fun e => by omega)]
theorem test_op {t : TestD} (h : testB t = true) : 1 ≤ t.op := by
  have := (test_parts h).1
  simp [opB] at this
  exact this.1
theorem op_six {op : Int} (h : 1 ≤ op) (k : op ≤ 6) : op = 1 ∨ op = 2 ∨ op = 3 ∨ op = 4 ∨ op = 5 ∨ op = 6 := by omega
theorem notT_ok {t : TestD} (h : testB t = true) (k : t.op ≤ 6) : testB (notT t) = true ∧ (notT t).op ≤ 6 := by
  obtain ⟨op, a, b⟩ := t
  have h1 := test_op h
  simp only at h1 k
  rcases op_six h1 k with rfl | rfl | rfl | rfl | rfl | rfl <;> (simp [testB, opB, notT, flipOp] at h ⊢; exact h)
theorem dec_not {p q : Prop} [Decidable p] [Decidable q] (h : p ↔ ¬ q) : decide p = !decide q := by
  rw [← decide_not]; exact decide_eq_decide.2 h
theorem says_flip {op : Int} (h : 1 ≤ op) (k : op ≤ 6) (a b : List CellD) : saysB (flipOp op) a b = !saysB op a b := by
  rcases op_six h k with rfl | rfl | rfl | rfl | rfl | rfl
  · exact dec_not (p := termCmp a b ≠ 0) (q := termCmp a b = 0) Iff.rfl
  · exact dec_not (p := termCmp a b = 0) (q := termCmp a b ≠ 0) (by omega)
  · exact dec_not (p := 0 ≤ termCmp a b) (q := termCmp a b < 0) (by omega)
  · exact dec_not (p := 0 < termCmp a b) (q := termCmp a b ≤ 0) (by omega)
  · exact dec_not (p := termCmp a b ≤ 0) (q := 0 < termCmp a b) (by omega)
  · exact dec_not (p := termCmp a b < 0) (q := 0 ≤ termCmp a b) (by omega)
theorem holds_one {t : TestD} {x : List (List CellD)} (h : testB t = true) : holdsE [t] x = if 16 < x.length then (false, 1) else if regsE x ≠ 0 then (false, regsE x) else (holdB x t, 0) := by
  have g : guardE [t] = 0 := by simp [guardE, h]
  rw [holdsE, if_neg (by simp [g])]
  simp
/-- Does a guard ask a register? -/
def asksB (g : List TestD) (n : Int) : Bool := g.any fun t => (decide (t.a.kind = 1) && decide (t.a.n = n)) || (decide (t.b.kind = 1) && decide (t.b.n = n))
def asksD (g : List TestD) : List Int := ((List.range 16).filter fun n => asksB g (n : Nat)).map fun n => ((n : Nat) : Int)
theorem asksD_mem {g : List TestD} {n : Int} : n ∈ asksD g ↔ 0 ≤ n ∧ n < 16 ∧ asksB g n = true := by
  unfold asksD
  simp only [List.mem_map, List.mem_filter, List.mem_range]
  constructor
  · rintro ⟨m, ⟨h1, h2⟩, rfl⟩
    exact ⟨by omega, by omega, h2⟩
  · rintro ⟨h0, h1, h2⟩
    refine ⟨n.toNat, ⟨by omega, ?_⟩, by omega⟩
    rw [Int.toNat_of_nonneg h0]; exact h2
theorem asks_len (g : List TestD) : (asksD g).length ≤ 16 := by
  unfold asksD
  rw [List.length_map]
  exact Nat.le_trans (List.length_filter_le _ _) (by simp)
theorem asks_a {t : TestD} (h : testB t = true) (k : t.a.kind = 1) {g : List TestD} (m : t ∈ g) : t.a.n ∈ asksD g := by
  have ha := (test_parts h).2.1
  rw [argB1 k] at ha
  simp at ha
  rw [asksD_mem]
  refine ⟨ha.1, ha.2.1, ?_⟩
  simp only [asksB, List.any_eq_true]
  exact ⟨t, m, by simp [k]⟩
theorem asks_b {t : TestD} (h : testB t = true) (o : t.op ≤ 6) (k : t.b.kind = 1) {g : List TestD} (m : t ∈ g) : t.b.n ∈ asksD g := by
  have ha := (test_parts h).2.2.1 o
  rw [argB1 k] at ha
  simp at ha
  rw [asksD_mem]
  refine ⟨ha.1, ha.2.1, ?_⟩
  simp only [asksB, List.any_eq_true]
  exact ⟨t, m, by simp [k]⟩
/-- A right operand that is none: its register is not set. -/
theorem value_none {a : CellD} {x : List (List CellD)} (ha : argB a = true) (h : valueD a x = []) : a.kind = 1 ∧ regD x a.n = [] := by
  by_cases h1 : a.kind = 1
  · rw [valueD1 h1] at h; exact ⟨h1, h⟩
  by_cases h3 : a.kind = 3
  · rw [valueD3 h3] at h; cases h
  by_cases h4 : a.kind = 4
  · rw [valueD4 h4] at h; cases h
  by_cases h5 : a.kind = 5
  · rw [valueD5 h5] at h; cases h
  · rw [argB0 h1 h3 h4 h5] at ha; cases ha
/-- A register that is asked and not set: neither holds. -/
theorem not_unset {t : TestD} {x : List (List CellD)} (h : testB t = true) (o : t.op ≤ 6) {n : Int} (m : n ∈ asksD [t]) (e : regD x n = []) : holdB x t = false ∧ holdB x (notT t) = false := by
  have o2 := (notT_ok h o).2
  obtain ⟨_, _, m3⟩ := asksD_mem.1 m
  simp [asksB] at m3
  rcases m3 with ⟨k, rfl⟩ | ⟨k, rfl⟩
  · have v : valueD t.a x = [] := by rw [valueD1 k]; exact e
    exact ⟨hold_a v, hold_a v⟩
  · have v : valueD t.b x = [] := by rw [valueD1 k]; exact e
    exact ⟨hold_b o v, hold_b o2 v⟩
theorem not_set {t : TestD} {x : List (List CellD)} (h : testB t = true) (o : t.op ≤ 6) (s : ∀ n ∈ asksD [t], regD x n ≠ []) : holdB x (notT t) = !holdB x t := by
  have ha : valueD t.a x ≠ [] := fun e => by
    obtain ⟨k, e2⟩ := value_none (test_parts h).2.1 e
    exact s _ (asks_a h k (by simp)) e2
  have hb : valueD t.b x ≠ [] := fun e => by
    obtain ⟨k, e2⟩ := value_none ((test_parts h).2.2.1 o) e
    exact s _ (asks_b h o k (by simp)) e2
  rw [hold_s ha (fun _ => hb), hold_s (t := notT t) ha (fun _ => hb)]
  exact says_flip (test_op h) o _ _
end Go.Proofs.YtefpolgflimlgaaDoor.Tm
