/- The reference's Sort. -/
import Derived.Test.YtfeaolnklooanaaDoorOSortP
import Derived.Test.YtfeaolnklooanaaDoorOrdR
import Derived.Test.YtfeaolnklooanaaDoorPrt
import Derived.Deep.RegionHeld3
import Derived.BigQuiet
namespace Go.Proofs.YtfeaolnklooanaaDoor.Tm
open Go.RowKit
set_option linter.unusedVariables false
set_option linter.unusedSimpArgs false

/-- In order. -/
def Rising (l : List (List CellD)) : Prop := l.Pairwise fun a b => termCmp a b ≤ 0
/-- One more term, behind the last one that is not greater. -/
theorem ins_rising {rs : List (List CellD)} {x : List CellD} {k : Nat} (h : Rising rs) (hr : ∀ l ∈ rs, (rightE l).1 = 0) (hx : (rightE x).1 = 0) (hk : k ≤ rs.length) (hhi : ∀ j (h : j < rs.length), k ≤ j → 0 < termCmp rs[j] x)
    (hlo : k = 0 ∨ ∃ h : k - 1 < rs.length, termCmp rs[k - 1] x ≤ 0) : Rising (rs.take k ++ [x] ++ rs.drop k) := by
  have hbelow : ∀ a ∈ rs.take k, termCmp a x ≤ 0 := fun a ha => by
    obtain ⟨j, hj, rfl⟩ := List.mem_iff_getElem.1 ha
    rw [List.length_take] at hj
    rw [List.getElem_take]
    rcases hlo with h0 | ⟨h1, h2⟩
    · omega
    · rcases Nat.lt_or_ge j (k - 1) with q | q
      · have h3 := List.pairwise_iff_getElem.1 h j (k - 1) (by omega) h1 q
        exact term_trans _ _ _ 1 (rightE_ok (hr _ (List.getElem_mem _))).1 (rightE_ok (hr _ (List.getElem_mem _))).1 (rightE_ok hx).1 h3 h2
      · have e : rs[j] = rs[k - 1] := by congr 1; omega
        rw [e]; exact h2
  have habove : ∀ b ∈ rs.drop k, termCmp x b ≤ 0 := fun b hb => by
    obtain ⟨j, hj, rfl⟩ := List.mem_iff_getElem.1 hb
    rw [List.length_drop] at hj
    rw [List.getElem_drop]
    have h1 := hhi (k + j) (by omega) (by omega)
    have := (term_sides rs[k + j] x).turn
    omega
  have hsplit : (rs.take k ++ rs.drop k).Pairwise fun a b => termCmp a b ≤ 0 := by rw [List.take_append_drop]; exact h
  obtain ⟨p1, p2, p3⟩ := List.pairwise_append.1 hsplit
  refine List.pairwise_append.2 ⟨List.pairwise_append.2 ⟨p1, List.pairwise_singleton _ _, fun a ha b hb => ?_⟩, p2, fun a ha b hb => ?_⟩
  · have : b = x := by simpa using hb
    rw [this]; exact hbelow a ha
  · rcases List.mem_append.1 ha with q | q
    · exact p3 a q b hb
    · have : a = x := by simpa using q
      rw [this]; exact habove b hb
theorem ins_perm {rs ls : List (List CellD)} {x : List CellD} {k i : Nat} (h : rs.Perm (ls.take i)) (hi : i < ls.length) (hx : ls[i] = x) : (rs.take k ++ [x] ++ rs.drop k).Perm (ls.take (i + 1)) := by
  rw [List.take_succ_eq_append_getElem hi, hx]
  have h1 : (rs.take k ++ [x] ++ rs.drop k).Perm (rs.take k ++ rs.drop k ++ [x]) := by
    rw [List.append_assoc, List.append_assoc]
    exact List.Perm.append_left _ List.perm_append_comm
  refine h1.trans ?_
  rw [List.take_append_drop]
  exact h.append_right _
theorem each_ins {P : Option Addr → Nat → List CellD → Prop} {vs : List Value} {rs : List (List CellD)} {x : List CellD} {k : Nat} {A : Option Addr} {c : Nat} (h : Each P vs rs) (hp : P A c x) (hk : k ≤ rs.length) : Each P (vs.take k ++ [.slice A x.length c] ++ vs.drop k) (rs.take k ++ [x] ++ rs.drop k) := by
  have hl := h.1
  refine ⟨by simp [hl], fun j hj => ?_⟩
  have hj' : j < rs.length + 1 := by
    have := hj
    simp at this
    omega
  rcases Nat.lt_trichotomy j k with q | q | q
  · obtain ⟨A', c', e, p⟩ := h.2 j (by omega)
    have e1 : (rs.take k ++ [x] ++ rs.drop k)[j] = rs[j] := by
      rw [List.getElem_append_left (by simp; omega), List.getElem_append_left (by simp; omega), List.getElem_take]
    refine ⟨A', c', ?_, by rw [e1]; exact p⟩
    rw [e1, List.getElem?_append_left (by simp; omega), List.getElem?_append_left (by simp; omega), List.getElem?_take_of_lt q, e]
  · subst q
    have e1 : (rs.take j ++ [x] ++ rs.drop j)[j] = x := by
      rw [List.getElem_append_left (by simp; omega), List.getElem_append_right (by simp; omega)]; simp
    refine ⟨A, c, ?_, by rw [e1]; exact hp⟩
    have h0 : j - (vs.take j).length = 0 := by rw [List.length_take]; omega
    rw [e1, List.getElem?_append_left (by simp; omega), List.getElem?_append_right (by rw [List.length_take]; omega), h0]
    rfl
  · obtain ⟨A', c', e, p⟩ := h.2 (j - 1) (by omega)
    have e1 : (rs.take k ++ [x] ++ rs.drop k)[j] = rs[j - 1] := by
      rw [List.getElem_append_right (by simp; omega), List.getElem_drop]
      congr 1
      simp; omega
    refine ⟨A', c', ?_, by rw [e1]; exact p⟩
    rw [e1, List.getElem?_append_right (by simp; omega), List.getElem?_drop, ← e]
    congr 1
    simp; omega
end Go.Proofs.YtfeaolnklooanaaDoor.Tm
