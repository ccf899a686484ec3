/- What objects take and hold. -/
import Derived.Test.YthgnihckeckaiaaDoorDpI
import Derived.Test.YthgnihckeckaiaaDoorDpP
namespace Go.Proofs.YthgnihckeckaiaaDoor.Tm
open Go.RowKit
set_option linter.unusedVariables false
set_option linter.unusedSimpArgs false

theorem part_at {L : List ObjA} (hw : WfA L) {x : Int} {k : Nat} {P : List Int} (hP : partsW L x = P) (h : k < P.length) : partE (seenA L x) (k : Int) = 0 ∧ partX (seenA L x) (k : Int) = P[k] := by
  unfold partsW at hP
  cases hs : seenA L x with
  | none => rw [hs] at hP; subst hP; simp at h
  | some r =>
    obtain ⟨c, ps⟩ := r
    rw [hs] at hP
    simp only at hP
    subst hP
    obtain ⟨_, _, s0⟩ := seen_shape hw hs
    have hk : c.kind = 5 ∨ c.kind = 7 := by
      by_cases h5 : c.kind = 5
      · exact .inl h5
      · by_cases h7 : c.kind = 7
        · exact .inr h7
        · have := s0 h5 h7; omega
    have e : partE (some (c, ps)) (k : Int) = 0 := by
      unfold partE
      simp only
      rw [if_neg (fun q => q hk), if_neg (by omega)]
    refine ⟨e, ?_⟩
    unfold partX
    simp only
    rw [e, if_pos rfl]
    simp [h]
theorem parts_len {L : List ObjA} (hw : WfA L) (x : Int) : (partsW L x).length ≤ 255 := by
  unfold partsW
  cases hs : seenA L x with
  | none => simp
  | some r =>
    obtain ⟨c, ps⟩ := r
    rcases seen_obj hs with ⟨_, _, rfl⟩ | ⟨k, hk, _, _, rfl⟩
    · simp
    · simp only
      rw [(hw k hk).kids]
      exact kidsD_le _
theorem BlkIs.fr {O : Nat → Prop} {a b : World} {k : Nat} {cs : Array Value} {t : TypeId} (h : BlkIs a k cs t) (hf : Fr O a b) (hn : ¬ O k) : BlkIs b k cs t := (hf.block k h.lt hn).trans h
theorem seen_good {L : List ObjA} (hw : WfA L) (hc : ∀ o ∈ L, WfC o.cell) {x : Int} {c : CellD} {ps : List Int} (hs : seenA L x = some (c, ps)) : cellE c = 0 ∧ WfC c := by
  rcases seen_obj hs with ⟨_, rfl, _⟩ | ⟨k, hk, _, rfl, _⟩
  · unfold cellW
    split
    · exact ⟨by decide, by decide, by decide, by decide⟩
    · refine ⟨?_, ?_, ?_, ?_⟩
      · simp [cellE, ByteArray.size]
      · simp only [valW]; omega
      · simp only [valW]; omega
      · simp [ByteArray.size]
  · exact ⟨(hw k hk).good, hc _ (List.getElem_mem hk)⟩
/-- What an object takes. -/
def costW (L : List ObjA) (x : Int) : Nat := match seenA L x with
  | some (c, _) => costC c
  | none => 0
def costsW (L : List ObjA) (m : List Int) : Nat := (m.map (costW L)).sum
theorem costsW_snoc (L : List ObjA) (m : List Int) (x : Int) : costsW L (m ++ [x]) = costsW L m + costW L x := by simp [costsW]
theorem costW_le {L : List ObjA} (hw : WfA L) (hc : ∀ o ∈ L, WfC o.cell) (x : Int) : costW L x ≤ 384 := by
  unfold costW
  cases hs : seenA L x with
  | none => simp
  | some r =>
    obtain ⟨c, ps⟩ := r
    have h1 := cost_le (seen_good hw hc hs).1
    have h2 := kidsD_le c
    simp only
    omega
theorem costsW_le {L : List ObjA} (hw : WfA L) (hc : ∀ o ∈ L, WfC o.cell) : ∀ m : List Int, costsW L m ≤ 384 * m.length
  | [] => by simp [costsW]
  | x :: m => by
    have h1 := costsW_le hw hc m
    have h2 := costW_le hw hc x
    simp only [costsW, List.map_cons, List.sum_cons, List.length_cons] at h1 ⊢
    omega
theorem part_end {L : List ObjA} {x : Int} {P : List Int} {k : Nat} (hP : partsW L x = P) (h : P.length ≤ k) : partE (seenA L x) (k : Int) ≠ 0 := by
  unfold partsW at hP
  cases hs : seenA L x with
  | none => simp [partE]
  | some r =>
    obtain ⟨c, ps⟩ := r
    rw [hs] at hP
    simp only at hP
    subst hP
    unfold partE
    simp only
    split
    · decide
    · rw [if_pos (by omega)]; decide
structure HeldSt (w wr : World) (P : List Int) (v : Value) : Prop where
  base : Below w.heap.size w wr
  row : wr.ownsRow w.heap.size 27 1 v P.length (encW P)
theorem wordsA_at : ∀ (l : List ObjA) (p k : Nat) (h : k < l.length), (wordsA p l)[k]? = some (wordAt l[k].cell (p + usedA (l.take k)))
  | [], _, k, h => absurd h (Nat.not_lt_zero k)
  | o :: l, p, k, h => by
    rw [wordsA]
    cases k with
    | zero => simp [usedA]
    | succ k =>
      have := wordsA_at l (p + costC o.cell) k (by simpa using h)
      simp only [List.getElem?_cons_succ, List.getElem_cons_succ, List.take_succ_cons, usedA_cons]
      rw [this, Nat.add_assoc]
theorem take_wf {l : List ObjA} (hw : WfA l) (k : Nat) : WfA (l.take k) := fun i hi => by
  have hi' : i < l.length := by simp at hi; omega
  have := hw i hi'
  have e1 : (l.take k)[i] = l[i] := List.getElem_take
  have e2 : (l.take k).take i = l.take i := by rw [List.take_take]; congr 1; simp at hi; omega
  rw [e1, e2]
  exact this
theorem used_take {l : List ObjA} (k : Nat) (h : k < l.length) : usedA (l.take (k + 1)) = usedA (l.take k) + costC l[k].cell := by
  rw [List.take_succ_eq_append_getElem h, usedA_snoc]
theorem used_take_le (l : List ObjA) (k : Nat) : usedA (l.take k) ≤ usedA l := by
  have h : usedA (l.take k ++ l.drop k) = usedA (l.take k) + usedA (l.drop k) := by simp only [usedA, List.map_append, List.sum_append]
  rw [List.take_append_drop] at h
  omega
theorem word_seen {l : List ObjA} (hw : WfA l) (hu : usedA l ≤ 262144) {k : Nat} (h : k < l.length) : seenA l (wordAt l[k].cell (usedA (l.take k))) = some (l[k].cell, l[k].parts) ∧ 0 ≤ wordAt l[k].cell (usedA (l.take k)) ∧ wordAt l[k].cell (usedA (l.take k)) < 18446744073709551616 := by
  have hk := used_take k h
  have hle := used_take_le l (k + 1)
  have hc := cost_pos (hw k h).good (hw k h).big
  have hf := findA_new l[k] (take_wf hw k).cost (by omega)
  have e : Ext (l.take k ++ [l[k]]) l := by
    rw [← List.take_succ_eq_append_getElem h]
    exact ext_take l (k + 1)
  refine ⟨e.seen ?_, ?_, ?_⟩
  · unfold seenA
    rw [hf]
    simp only
    rw [if_neg (by omega), Int.toNat_natCast, List.getElem?_append_right (Nat.le_refl _)]
    simp
  · unfold wordAt; split <;> omega
  · unfold wordAt; split <;> omega
theorem costs_words {l : List ObjA} (hw : WfA l) (hu : usedA l ≤ 262144) : (wordsA 0 l).map (costW l) = l.map fun o => costC o.cell := by
  refine List.ext_getElem (by simp [wordsA_len]) fun k h1 h2 => ?_
  rw [List.length_map] at h2
  rw [List.getElem_map, List.getElem_map]
  have hk : k < (wordsA 0 l).length := by rw [wordsA_len]; exact h2
  have h3 := wordsA_at l 0 k h2
  rw [List.getElem?_eq_getElem hk, Nat.zero_add] at h3
  rw [Option.some.inj h3]
  unfold costW
  rw [(word_seen hw hu h2).1]
theorem kd_range (x : Int) : kdW x = 0 ∨ kdW x = 1 ∨ kdW x = 2 ∨ kdW x = 3 ∨ kdW x = 4 ∨ kdW x = 5 := by
  unfold kdW
  repeat' split
  all_goals simp
theorem word_at {l : List ObjA} (hw : WfA l) (hu : usedA l ≤ 262144) {k : Nat} (h : k < l.length) : ∃ x, (wordsA 0 l)[k]? = some x ∧ findA l x = some (k : Int) ∧ (kdW x = 3 ∨ kdW x = 4) ∧ 0 ≤ x ∧ x < 18446744073709551616 := by
  have hk := used_take k h
  have hle := used_take_le l (k + 1)
  have hc := cost_pos (hw k h).good (hw k h).big
  have hf := findA_new l[k] (take_wf hw k).cost (by omega)
  have e : Ext (l.take k ++ [l[k]]) l := by
    rw [← List.take_succ_eq_append_getElem h]
    exact ext_take l (k + 1)
  have hlen : (l.take k).length = k := by rw [List.length_take]; omega
  rw [hlen] at hf
  obtain ⟨_, f2, f3⟩ := word_seen hw hu h
  refine ⟨wordAt l[k].cell (usedA (l.take k)), by rw [wordsA_at l 0 k h, Nat.zero_add], e.find hf, ?_, f2, f3⟩
  rw [kdW_wordAt (by omega)]
  split <;> simp
theorem find_word {l : List ObjA} (hw : WfA l) (hu : usedA l ≤ 262144) {x : Int} (hk : kdW x ≠ 1 ∧ kdW x ≠ 2) :
    (∀ k : Nat, findA l x = some (k : Int) → (wordsA 0 l)[k]? = some x) ∧ (∀ k : Nat, (wordsA 0 l)[k]? = some x → findA l x = some (k : Int)) ∧ (findA l x = none ∨ ∃ k : Nat, findA l x = some (k : Int)) := by
  refine ⟨fun k hf => ?_, fun k hx => ?_, ?_⟩
  · unfold findA at hf
    rw [if_neg (by omega)] at hf
    split at hf
    · split at hf
      · split at hf
        · rename_i hx
          have e := Int.natCast_inj.1 (Option.some.inj hf)
          rw [← e]
          exact hx
        · cases hf
      · cases hf
    · cases hf
  · have hlt := (List.getElem?_eq_some_iff.1 hx).1
    rw [wordsA_len] at hlt
    obtain ⟨y, hy, hf, _⟩ := word_at hw hu hlt
    rw [hx] at hy
    cases hy
    exact hf
  · cases hf : findA l x with
    | none => exact .inl rfl
    | some k =>
      right
      unfold findA at hf
      rw [if_neg (by omega)] at hf
      split at hf
      · split at hf
        · split at hf
          · rename_i j _ _
            exact ⟨j, by have := Option.some.inj hf; rw [← this]⟩
          · cases hf
        · cases hf
      · cases hf
theorem words_apart {l : List ObjA} (hw : WfA l) (hu : usedA l ≤ 262144) {i j : Nat} (hi : i < l.length) (hj : j < l.length) (hne : i ≠ j) {x y : Int} (hx : (wordsA 0 l)[i]? = some x) (hy : (wordsA 0 l)[j]? = some y) : x ≠ y := by
  obtain ⟨x', e1, f1, _⟩ := word_at hw hu hi
  obtain ⟨y', e2, f2, _⟩ := word_at hw hu hj
  rw [hx] at e1
  rw [hy] at e2
  cases e1
  cases e2
  intro e
  rw [e, f2] at f1
  have := Option.some.inj f1
  omega
theorem find_seen {L : List ObjA} {x : Int} (h : FindOk L x) : ∃ c ps, seenA L x = some (c, ps) := by
  have h1 := seen_is (L := L) x
  rw [h.1] at h1
  obtain ⟨⟨c, ps⟩, hr⟩ := Option.isSome_iff_exists.1 h1
  exact ⟨c, ps, hr⟩
end Go.Proofs.YthgnihckeckaiaaDoor.Tm
