/- Plain facts and frames for the law OrderParts. -/
import Derived.Test.YtfeaolnklooanaaDoorSpRow
import Derived.Test.YtfeaolnklooanaaDoorEIter
import Derived.Test.YtfeaolnklooanaaDoorSameA
import Derived.Test.YtfeaolnklooanaaDoorRElem
namespace Go.Proofs.YtfeaolnklooanaaDoor.Tm
open Go.RowKit
set_option linter.unusedVariables false
set_option linter.unusedSimpArgs false

theorem rsame_self (l : List CellD) (m n : Nat) (hm : l.length = m) (hn : l.length = n) (A B : Option Addr) (c1 c2 : Nat) (w : World) (hx : Reads w A l) (hy : Reads w B l) (hl : l.length ≤ 1000000000000000) :
    Calls Tryd.prog 10 #[.slice A m c1, .slice B n c2] w fun e w' => e = .returned (.bool true) ∧ Below w.heap.size w w' := by
  subst hm
  subst hn
  have := rsame_any A B c1 c2 l l w hx hy hl hl
  rwa [show decide (l = l) = true by simp] at this
theorem partE_small (t : List CellD) (i : Int) : (partE t i).1.length ≤ 1024 := by
  unfold partE
  split
  · simp
  · rename_i h
    split
    · simp
    · have hle := (rightE_ok (Decidable.not_not.1 h)).2.2
      by_cases hj : i.toNat < (partsE t).length
      · rw [List.getD_eq_getElem?_getD, List.getElem?_eq_getElem hj]
        have := partsE_small t _ (List.getElem_mem hj)
        simp; omega
      · rw [List.getD_eq_getElem?_getD, List.getElem?_eq_none (by omega)]; simp
theorem partsR_small {t : List CellD} : ∀ p ∈ partsR t, p.length ≤ 1024 := by
  intro p hp
  unfold partsR at hp
  split at hp
  · simp at hp
  · rename_i h
    have hle := (rightE_ok (Decidable.not_not.1 h)).2.2
    have := partsE_small t p hp
    omega
theorem partsR_len (t : List CellD) : (partsR t).length ≤ 255 := by
  unfold partsR; split
  · simp
  · exact partsE_len t
theorem elemsE_small {t : List CellD} : ∀ p ∈ (elemsE t).1, p.length ≤ 1024 := by
  intro p hp
  unfold elemsE at hp
  split at hp
  · simp at hp
  · rename_i h
    have hle := (rightE_ok (Decidable.not_not.1 h)).2.2
    split at hp
    · have := elemsL_small _ _ p hp
      omega
    · simp at hp
theorem elemsE_len (t : List CellD) : (elemsE t).1.length ≤ 1024 := by
  unfold elemsE
  split
  · simp
  · rename_i h
    have hle := (rightE_ok (Decidable.not_not.1 h)).2.2
    split
    · have := elemsL_len t.length t
      show (elemsL t.length t).1.length ≤ 1024
      omega
    · simp
theorem elemsE_no {t : List CellD} (h : (elemsE t).2 ≠ 0) : (elemsE t).1 = [] := by
  unfold elemsE at h ⊢
  split at h
  · rw [if_pos (by assumption)]
  · rw [if_neg (by assumption)]
    split at h
    · exact absurd rfl h
    · rw [if_neg (by assumption)]
theorem YRows.reads2 {lo base c : Nat} {ys : List Yld} {A : Option Addr} {W : World} (hr : W.ownsRow base 22 1 (.slice A ys.length c) ys.length (ys.map Yld.val)) (h : YRows lo ys W) : Reads2 W A (ys.map Yld.l) := by
  refine Reads2.of_row (rest := []) (P := fun A c l => RowIs W lo A c l) (by rw [List.append_nil]; exact hr) ⟨by simp, fun j hj => ?_⟩ (fun A c l p => p.reads)
  have hj' : j < ys.length := by simpa using hj
  refine ⟨ys[j].A, ys[j].c, by rw [yval_at hj']; simp, ?_⟩
  have := h ys[j] (List.getElem_mem hj')
  simpa using this
/-- A row whose base is no block of cells lies behind it. -/
theorem row_past {W : World} {base n : Nat} {e : TypeId} {s : Nat} {v : Value} {xs : List Value} {o : Obj} (h : W.ownsRow base e s v n xs) (ho : W.heap[base]? = some o) (hc : o.isCells = false) : W.ownsRow (base + 1) e s v n xs := by
  refine ⟨h.1, ?_⟩
  rcases h.2 with k | ⟨g, cap, cur, hv, hb, hg, k⟩
  · exact .inl k
  · refine .inr ⟨g, cap, cur, hv, ?_, hg, k⟩
    rcases Nat.lt_or_ge base g with q | q
    · exact q
    · obtain rfl : g = base := by omega
      rw [hg] at ho
      injection ho with ho
      subst ho
      cases hc
theorem YRows.past {lo : Nat} {ys : List Yld} {W : World} {o : Obj} (h : YRows lo ys W) (ho : W.heap[lo]? = some o) (hc : o.isCells = false) : YRows (lo + 1) ys W := fun y hy => row_past (h y hy) ho hc
theorem YRows.high {lo : Nat} {ys : List Yld} {W : World} (h : YRows lo ys W) : ∀ y ∈ ys, ∀ k, y.val.ownBlock = some k → k < W.heap.size := fun y hy k e => row_lt (h y hy) k e
theorem ys_small {ys : List Yld} {ls : List (List CellD)} (e : ys.map Yld.l = ls) (h : ∀ l ∈ ls, l.length ≤ 1024) : ∀ y ∈ ys, y.l.length ≤ 1024 := fun y hy => h _ (e ▸ List.mem_map_of_mem hy)
end Go.Proofs.YtfeaolnklooanaaDoor.Tm
