/- Terms taken apart and made again, as plain law. -/
import Derived.Test.YtfeaolnklooanaaDoorElemP
import Derived.Test.YtfeaolnklooanaaDoorPatQ
import Derived.Test.YtfeaolnklooanaaDoorOrdP
namespace Go.Proofs.YtfeaolnklooanaaDoor.Tm
set_option linter.unusedVariables false
set_option linter.unusedSimpArgs false

theorem good_take1 : ∀ (t : List CellD) (o : Int) (k : Nat), Good t o → (k : Int) ≤ o → Good (t.take (spanK t k)) k
  | t, o, 0, g, h => by rw [spanK_zero]; show (0 : Int) = 0; rfl
  | [], o, k + 1, g, h => by have h0 : o = 0 := g; omega
  | c :: t, o, k + 1, g, h => by
    have := good_take1 t _ (k + kidsD c) g.2.2 (by push_cast at h ⊢; omega)
    rw [show spanK (c :: t) (k + 1) = spanK t (k + kidsD c) + 1 by rw [spanK, Nat.add_comm], List.take_succ_cons]
    refine ⟨g.1, by omega, ?_⟩
    rw [show ((k + 1 : Nat) : Int) - 1 + kidsD c = ((k + kidsD c : Nat) : Int) by push_cast; omega]
    exact this
theorem wrong_zero : ∀ {ls : List (List CellD)}, (∀ l ∈ ls, (rightE l).1 = 0) → wrongE ls = 0
  | [], _ => rfl
  | l :: ls, h => by rw [wrongE, if_neg (by simp [h l (by simp)])]; exact wrong_zero fun m hm => h m (by simp [hm])
theorem wrong_all : ∀ {ls : List (List CellD)}, wrongE ls = 0 → ∀ l ∈ ls, (rightE l).1 = 0
  | [], _, l, h => absurd h (by simp)
  | m :: ls, h, l, hl => by
    rw [wrongE] at h
    split at h
    · rename_i k; exact absurd h k
    · rename_i k
      rcases List.mem_cons.1 hl with rfl | h2
      · exact Decidable.not_not.1 k
      · exact wrong_all h l h2
theorem good_app : ∀ (a b : List CellD) (i j : Int), Good a i → Good b j → 0 ≤ j → Good (a ++ b) (i + j)
  | [], b, i, j, h, k, hj => by have h0 : i = 0 := h; subst h0; simpa using k
  | c :: a, b, i, j, h, k, hj => by
    refine ⟨h.1, by have := h.2.1; omega, ?_⟩
    have := good_app a b _ j h.2.2 k hj
    rw [show i + j - 1 + (kidsD c : Int) = i - 1 + kidsD c + j by omega]
    exact this
theorem span_app : ∀ (a b : List CellD) (k : Nat), Wf a k → spanK (a ++ b) k = a.length
  | [], b, k, h => by
    have h0 : (k : Int) = 0 := h
    obtain rfl : k = 0 := by omega
    rw [spanK_zero]; rfl
  | c :: a, b, 0, h => by have := h.1; omega
  | c :: a, b, k + 1, h => by
    rw [List.cons_append, spanK, span_app a b (k + kidsD c) (by have := h.2; rw [show ((k + 1 : Nat) : Int) - 1 + kidsD c = ((k + kidsD c : Nat) : Int) by push_cast; omega] at this; exact this), List.length_cons]
    omega
theorem skip_app (a b : List CellD) (k : Nat) (h : Wf a k) : skipK (a ++ b) k = b := by
  unfold skipK; rw [span_app a b k h]; simp
theorem take_app (a b : List CellD) (k : Nat) (h : Wf a k) : (a ++ b).take (spanK (a ++ b) k) = a := by
  rw [span_app a b k h]; simp
theorem parts_right : ∀ (k : Nat) (l : List CellD), Good l k → l.length ≤ 1024 → ∀ p ∈ partsK k l, (rightE p).1 = 0
  | 0, l, h, hl, p, hp => by simp [partsK] at hp
  | k + 1, l, h, hl, p, hp => by
    rw [partsK] at hp
    rcases List.mem_cons.1 hp with rfl | h2
    · exact right_of_good (good_take1 l _ 1 h (by push_cast; omega)) (by have := List.length_take_le' (spanK l 1) l; omega)
    · have := good_skip l _ 1 h (by push_cast; omega)
      refine parts_right k (skipK l 1) (by rw [show ((k + 1 : Nat) : Int) - ((1 : Nat) : Int) = (k : Int) by push_cast; omega] at this; exact this) (by unfold skipK; rw [List.length_drop]; omega) p h2
theorem parts_join : ∀ (k : Nat) (l : List CellD), Good l k → joinL [] (partsK k l) = l
  | 0, [], h => rfl
  | 0, c :: l, h => by have := h.2.1; omega
  | k + 1, l, h => by
    have := good_skip l _ 1 h (by push_cast; omega)
    rw [show ((k + 1 : Nat) : Int) - ((1 : Nat) : Int) = (k : Int) by push_cast; omega] at this
    have ih := parts_join k (skipK l 1) this
    unfold joinL at ih ⊢
    rw [partsK, List.flatMap_cons, ih, List.nil_append]
    unfold skipK
    exact List.take_append_drop _ _
theorem wrong_pair {l m : List CellD} (h : wrongE [l, m] = 0) : (rightE l).1 = 0 ∧ (rightE m).1 = 0 := wrong2.1 h
/-- A tuple's parts make it again. -/
theorem tuple_back {t : List CellD} (h : (rightE t).1 = 0) {c : CellD} {l : List CellD} (ht : t = c :: l) (hk : c.kind = 5) : tupleE (partsE t) = (t, 0) := by
  obtain ⟨hg, h0, hl⟩ := rightE_ok h
  subst ht
  have hc := hg.1
  have hk2 : kidsD c = c.n.toNat ∧ 0 ≤ c.n ∧ c.n ≤ 255 ∧ c.text.size = 0 := by
    unfold cellE at hc
    rw [hk] at hc
    simp at hc
    unfold kidsD
    rw [hk]
    by_cases hs : c.text = ByteArray.empty
    · rw [if_pos hs] at hc
      by_cases hn : c.n < 0 ∨ 255 < c.n
      · rw [if_pos hn] at hc; cases hc
      · exact ⟨by simp; omega, by omega, by omega, by rw [hs]; rfl⟩
    · rw [if_neg hs] at hc; cases hc
  have hgl : Good l (kidsD c : Int) := by have := hg.2.2; simpa using this
  have e1 : partsE (c :: l) = partsK (kidsD c) l := rfl
  have e2 : (partsK (kidsD c) l).length = kidsD c := partsK_len _ _
  have e3 : tupC (kidsD c : Int) = c := by
    obtain ⟨k, n, s⟩ := c
    simp only at hk hk2
    obtain ⟨q1, q2, q3, q4⟩ := hk2
    subst hk
    have hs : s = noText := by
      apply data_eq
      have h1 : s.data.toList.length = 0 := by have : s.data.size = 0 := q4; simpa using this
      have h2 : s.data.toList = [] := List.eq_nil_of_length_eq_zero h1
      rw [h2]; rfl
    subst hs
    unfold tupC
    rw [q1]
    congr 1
    omega
  have hlen : (c :: l).length = 1 + sumL 0 (partsK (kidsD c) l) := by
    have := joinL_length [] (partsK (kidsD c) l)
    rw [parts_join _ _ hgl] at this
    simp only [List.length_cons, this]
    simp; omega
  rw [e1, tupleE, wrong_zero (parts_right _ _ hgl (by simp only [List.length_cons] at hl; omega)), if_neg (by simp), e2, if_neg (by omega), joinE, if_neg (by simp at hlen hl ⊢; omega), parts_join _ _ hgl, e3]
  simp
theorem cellE_cons : cellE consC = 0 := rfl
/-- A cons is taken apart to what it was made of. -/
theorem cons_back {l m : List CellD} (h : (consE l m).2 = 0) : (rightE (consE l m).1).1 = 0 ∧ partE (consE l m).1 0 = (l, 0) ∧ partE (consE l m).1 1 = (m, 0) := by
  unfold consE at h ⊢
  by_cases hw : wrongE [l, m] = 0
  · obtain ⟨hl, hm⟩ := wrong_pair hw
    obtain ⟨gl, l0, _⟩ := rightE_ok hl
    obtain ⟨gm, m0, _⟩ := rightE_ok hm
    rw [if_neg (by simp [hw])] at h ⊢
    unfold joinE at h ⊢
    by_cases hs : 1024 < [consC].length + ([] : List CellD).length + sumL ([] : List CellD).length [l, m]
    · rw [if_pos hs] at h; cases h
    · rw [if_neg hs]
      have e : [consC] ++ joinL [] [l, m] ++ [] = consC :: (l ++ m) := by simp [joinL]
      have hlen : (consC :: (l ++ m)).length ≤ 1024 := by simp [sumL] at hs ⊢; omega
      rw [e]
      have hg : Good (consC :: (l ++ m)) 1 := ⟨cellE_cons, by omega, by have := good_app l m 1 1 gl gm (by omega); simpa [kidsD, consC] using this⟩
      have hr := right_of_good hg hlen
      have hp : partsE (consC :: (l ++ m)) = [l, m] := by
        have : kidsD consC = 2 := rfl
        rw [partsE, this, partsK, partsK, partsK, take_app l m 1 gl.wf, skip_app l m 1 gl.wf, span_all gm.wf]
      refine ⟨hr, ?_, ?_⟩
      · have := part_in (j := 0) hr (by rw [hp]; simp)
        simp only [hp] at this
        simpa using this
      · have := part_in (j := 1) hr (by rw [hp]; simp)
        simp only [hp] at this
        simpa using this
  · rw [if_pos (by simpa using hw)] at h
    exact absurd h hw
theorem list_good : ∀ (ls : List (List CellD)), (∀ l ∈ ls, (rightE l).1 = 0) → Good (joinL [consC] ls ++ [nilC]) 1
  | [], _ => ⟨rfl, by omega, (rfl : (1 : Int) - 1 + (0 : Nat) = 0)⟩
  | l :: ls, h => by
    have ih := list_good ls fun m hm => h m (by simp [hm])
    obtain ⟨gl, _, _⟩ := rightE_ok (h l (by simp))
    have e : joinL [consC] (l :: ls) ++ [nilC] = consC :: (l ++ (joinL [consC] ls ++ [nilC])) := by simp [joinL]
    rw [e]
    refine ⟨cellE_cons, by omega, ?_⟩
    have := good_app l _ 1 1 gl ih (by omega)
    simpa [kidsD, consC] using this
theorem list_elems : ∀ (f : Nat) (ls : List (List CellD)), ls.length < f → (∀ l ∈ ls, (rightE l).1 = 0) → elemsL f (joinL [consC] ls ++ [nilC]) = (ls, true)
  | 0, ls, hf, _ => by omega
  | f + 1, [], hf, _ => by simp [joinL, elemsL, nilC]
  | f + 1, l :: ls, hf, h => by
    obtain ⟨gl, _, _⟩ := rightE_ok (h l (by simp))
    have ih := list_elems f ls (by simp at hf; omega) fun m hm => h m (by simp [hm])
    have e : joinL [consC] (l :: ls) ++ [nilC] = consC :: (l ++ (joinL [consC] ls ++ [nilC])) := by simp [joinL]
    rw [e, elemsL, if_pos (show consC.kind = 7 from rfl), take_app l _ 1 gl.wf, skip_app l _ 1 gl.wf, ih]
theorem sumL_ge (k : Nat) : ∀ (ls : List (List CellD)), k * ls.length ≤ sumL k ls
  | [] => by simp
  | l :: ls => by have := sumL_ge k ls; simp only [sumL, List.length_cons, Nat.mul_succ]; omega
/-- A list's elements are those it was made of. -/
theorem list_back {ls : List (List CellD)} (h : (listE ls).2 = 0) : elemsE (listE ls).1 = (ls, 0) := by
  unfold listE at h ⊢
  by_cases hw : wrongE ls = 0
  · rw [if_neg (by simp [hw])] at h ⊢
    unfold joinE at h ⊢
    by_cases hs : 1024 < ([] : List CellD).length + [nilC].length + sumL [consC].length ls
    · rw [if_pos hs] at h; cases h
    · rw [if_neg hs]
      have hlen : (joinL [consC] ls ++ [nilC]).length ≤ 1024 := by
        have := joinL_length [consC] ls
        simp [this] at hs ⊢; omega
      have hlt : ls.length < (joinL [consC] ls ++ [nilC]).length := by
        have h1 := joinL_length [consC] ls
        have h2 := sumL_ge 1 ls
        simp [h1]; omega
      have hr := right_of_good (list_good ls (wrong_all hw)) hlen
      have he := list_elems _ ls hlt (wrong_all hw)
      rw [List.nil_append, el_yes hr (by rw [he]), he]
  · rw [if_pos (by simpa using hw)] at h
    exact absurd h hw
theorem term_self_cons (c : CellD) (l m : List CellD) : termCmp (c :: l) (c :: m) = termCmp l m := by
  rw [termCmp, if_neg (by simp [cell_eq.2 rfl])]
/-- What is ahead of two terms in tuples alike. -/
theorem pair_tuple {n : Int} {t : List CellD} (h : (tupleE [[intC n], t]).2 = 0) : (tupleE [[intC n], t]).1 = tupC 2 :: intC n :: t ∧ (rightE t).1 = 0 ∧ (rightE (tupleE [[intC n], t]).1).1 = 0 := by
  unfold tupleE at h ⊢
  by_cases hw : wrongE [[intC n], t] = 0
  · obtain ⟨hi, ht⟩ := wrong_pair hw
    rw [if_neg (by simp [hw])] at h ⊢
    rw [if_neg (by simp)] at h ⊢
    unfold joinE at h ⊢
    by_cases hs : 1024 < [tupC (([[intC n], t] : List (List CellD)).length)].length + ([] : List CellD).length + sumL ([] : List CellD).length [[intC n], t]
    · rw [if_pos hs] at h; cases h
    · rw [if_neg hs]
      obtain ⟨gi, _, _⟩ := rightE_ok hi
      obtain ⟨gt, _, _⟩ := rightE_ok ht
      have e : [tupC (([[intC n], t] : List (List CellD)).length)] ++ joinL [] [[intC n], t] ++ [] = tupC 2 :: intC n :: t := by simp [joinL]
      have hlen : (tupC 2 :: intC n :: t).length ≤ 1024 := by simp [sumL] at hs ⊢; omega
      rw [e]
      refine ⟨rfl, ht, right_of_good ⟨rfl, by omega, ?_⟩ hlen⟩
      have := good_app [intC n] t 1 1 gi gt (by omega)
      exact this
  · rw [if_pos (by simpa using hw)] at h
    exact absurd h hw
theorem order_back {n : Int} {t u : List CellD} (h : (tupleE [[intC n], t]).2 = 0) (k : (tupleE [[intC n], u]).2 = 0) :
    compareE (tupleE [[intC n], t]).1 (tupleE [[intC n], u]).1 = (termCmp t u, 0) ∧ compareE t u = (termCmp t u, 0) := by
  obtain ⟨e1, r1, s1⟩ := pair_tuple h
  obtain ⟨e2, r2, s2⟩ := pair_tuple k
  refine ⟨?_, compare_ok r1 r2⟩
  rw [compare_ok s1 s2, e1, e2, term_self_cons, term_self_cons]
end Go.Proofs.YtfeaolnklooanaaDoor.Tm
