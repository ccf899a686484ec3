/- Plain facts for OrderSorts and OrderCompares. -/
import Derived.Test.YtfeaolnklooanaaDoorMaxW
import Derived.Test.YtfeaolnklooanaaDoorSrtR
namespace Go.Proofs.YtfeaolnklooanaaDoor.Tm
open Go.RowKit Go.Proofs.YtfeaolnklooanaaDoor.Sx
set_option linter.unusedVariables false
set_option linter.unusedSimpArgs false

theorem rsame_len (xs ys : List CellD) (m n : Nat) (hm : xs.length = m) (hn : ys.length = n) (A B : Option Addr) (c1 c2 : Nat) (w : World) (hx : Reads w A xs) (hy : Reads w B ys) (h1 : xs.length ≤ 1000000000000000) (h2 : ys.length ≤ 1000000000000000) :
    Calls Tryd.prog 10 #[.slice A m c1, .slice B n c2] w fun e w' => e = .returned (.bool (decide (xs = ys))) ∧ Below w.heap.size w w' := by
  subst hm
  subst hn
  exact rsame_any A B c1 c2 xs ys w hx hy h1 h2
theorem Compare_len (l m : List CellD) (n1 n2 : Nat) (h1 : l.length = n1) (h2 : m.length = n2) (A B : Option Addr) (c d : Nat) (w : World) (hr : Reads w A l) (hr2 : Reads w B m) (hf : Fine l) (hf2 : Fine m) (hc : l.length ≤ c) (hd : m.length ≤ d) (hT : Tabs w) :
    Calls Tryd.prog 26 #[.slice A n1 c, .slice B n2 d] w fun e w' => e = .returned (.tuple #[.int .i64 (compareE l m).1, .int .i64 (compareE l m).2]) ∧ Below w.heap.size w w' := by
  subst h1
  subst h2
  exact Compare_any l m A B c d w hr hr2 hf hf2 hc hd hT
/-- How often a term stands in a list. -/
def cnt (x : List CellD) (l : List (List CellD)) : Nat := l.countP fun y => decide (y = x)
theorem cnt_zero (x : List CellD) (l : List (List CellD)) : cnt x (l.take 0) = 0 := by simp [cnt]
theorem cnt_succ {x : List CellD} {l : List (List CellD)} {k : Nat} (h : k < l.length) : cnt x (l.take (k + 1)) = cnt x (l.take k) + if decide (l[k] = x) = true then 1 else 0 := by
  unfold cnt
  rw [List.take_succ_eq_append_getElem h, List.countP_append, List.countP_singleton]
theorem cnt_le (x : List CellD) (l : List (List CellD)) (k : Nat) : cnt x (l.take k) ≤ k := by
  unfold cnt
  exact Nat.le_trans List.countP_le_length (List.length_take_le k l)
theorem cnt_perm {x : List CellD} {l s : List (List CellD)} (h : l.Perm s) {n : Nat} (hl : l.length = n) (hs : s.length = n) : cnt x (l.take n) = cnt x (s.take n) := by
  rw [List.take_of_length_le (by omega), List.take_of_length_le (by omega)]
  exact h.countP_eq _
theorem bestE_max : ∀ (l : List (List CellD)) (b : List CellD), (∀ y ∈ b :: l, (rightE y).1 = 0) → ∀ y ∈ b :: l, termCmp y (bestE b l) ≤ 0
  | [], b, h, y, hy => by
    have : y = b := by simpa using hy
    subst this
    rw [bestE, (term_zero (h y (by simp)) (h y (by simp))).2 rfl]
    exact Int.le_refl _
  | x :: l, b, h, y, hy => by
    have hb := h b (by simp)
    have hx := h x (by simp)
    have hturn := (term_sides x b).turn
    have hb' : (rightE (if 0 < termCmp x b then x else b)).1 = 0 := by split <;> assumption
    have hall : ∀ z ∈ (if 0 < termCmp x b then x else b) :: l, (rightE z).1 = 0 := fun z hz => by
      rcases List.mem_cons.1 hz with rfl | k
      · exact hb'
      · exact h z (by simp [k])
    have ih := bestE_max l (if 0 < termCmp x b then x else b) hall
    have hm := bestE_mem l (if 0 < termCmp x b then x else b)
    have hbr : (rightE (bestE (if 0 < termCmp x b then x else b) l)).1 = 0 := hall _ hm
    rw [bestE]
    have h1 := ih _ (List.mem_cons_self ..)
    have go : ∀ z, (rightE z).1 = 0 → termCmp z (if 0 < termCmp x b then x else b) ≤ 0 → termCmp z (bestE (if 0 < termCmp x b then x else b) l) ≤ 0 := fun z hz k =>
      term_trans z _ _ 1 (rightE_ok hz).1 (rightE_ok hb').1 (rightE_ok hbr).1 k h1
    rcases List.mem_cons.1 hy with rfl | k
    · refine go _ hb ?_
      split
      · omega
      · rw [(term_zero hb hb).2 rfl]; exact Int.le_refl _
    · rcases List.mem_cons.1 k with rfl | k2
      · refine go _ hx ?_
        split
        · rw [(term_zero hx hx).2 rfl]; exact Int.le_refl _
        · omega
      · exact ih y (by simp [k2])
/-- The greatest one is the last of those in order. -/
theorem best_last {x : List CellD} {l s : List (List CellD)} (h : ∀ y ∈ x :: l, (rightE y).1 = 0) (hp : s.Perm (x :: l)) (hs : s.Pairwise (fun a b => termCmp a b ≤ 0)) {n : Nat} (hn : n + 1 = s.length) : s[n] = bestE x l := by
  have hb := bestE_mem l x
  have hbr := h _ hb
  have hl : s[n] ∈ x :: l := hp.mem_iff.1 (List.getElem_mem _)
  have hlr := h _ hl
  have h1 := bestE_max l x h _ hl
  have h2 : termCmp (bestE x l) s[n] ≤ 0 := by
    obtain ⟨j, hj, e⟩ := List.mem_iff_getElem.1 (hp.mem_iff.2 hb)
    rcases Nat.lt_or_ge j n with k | k
    · rw [← e]; exact List.pairwise_iff_getElem.1 hs j n hj (by omega) k
    · obtain rfl : j = n := by omega
      rw [e, (term_zero hbr hbr).2 rfl]; exact Int.le_refl _
  have := (term_sides s[n] (bestE x l)).turn
  exact (term_zero hlr hbr).1 (by omega)
end Go.Proofs.YtfeaolnklooanaaDoor.Tm
