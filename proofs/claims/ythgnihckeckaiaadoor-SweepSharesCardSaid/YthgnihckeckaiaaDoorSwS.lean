/- All that a Put makes is reached; what a term takes: plain lists. -/
import Derived.Test.YthgnihckeckaiaaDoorSwX
import Derived.Test.YthgnihckeckaiaaDoorSwD
namespace Go.Proofs.YthgnihckeckaiaaDoor.Tm
set_option linter.unusedVariables false
set_option linter.unusedSimpArgs false

def sumK (t : List CellD) : Nat := (t.map kidsD).sum
theorem good_kids : ∀ (t : List CellD) (o : Int), Good t o → (sumK t : Int) + o = (t.length : Int)
  | [], o, g => by
    have g0 : o = 0 := g
    simp [sumK, g0]
  | c :: t, o, g => by
    obtain ⟨_, _, g3⟩ := g
    have h := good_kids t _ g3
    simp only [sumK, List.map_cons, List.sum_cons, List.length_cons] at h ⊢
    omega
theorem total_kids : ∀ (t : List CellD), (∀ c ∈ t, cellE c = 0) → totalA t ≤ 129 * t.length + sumK t
  | [], _ => by simp [totalA]
  | c :: t, h => by
    have h1 := total_kids t (fun d hd => h d (by simp [hd]))
    have h2 := cost_le (h c (by simp))
    simp only [totalA, sumK, List.map_cons, List.sum_cons, List.length_cons] at h1 ⊢
    omega
theorem put_total {room : Nat} {l : List ObjA} {t : List CellD} (h : putE room l t = 0) : totalA t ≤ 133120 := by
  have h0 : (rightE t).1 = 0 := by
    unfold putE at h
    split at h
    · exact h
    · rename_i h'; simpa using h'
  obtain ⟨hg, hl0, hl1⟩ := rightE_ok h0
  have h1 := total_kids t (good_cells hg)
  have h2 := good_kids t 1 hg
  omega
theorem vis_min {L : List ObjA} {S : List Int} (hS : ∀ x ∈ S, ∀ p ∈ partsW L x, ptrW p = true → p ∈ S) : ∀ (f : Nat) (m : List Int) (x : Int), (ptrW x = true → x ∈ S) → ∀ y ∈ visF L f m x, y ∈ m ∨ y ∈ S
  | 0, m, _, _ => fun y hy => .inl hy
  | f + 1, m, x, hx => by
    unfold visF
    split
    · exact fun y hy => .inl hy
    · rename_i hn
      have hpx : ptrW x = true := by cases hp : ptrW x <;> simp_all
      have key : ∀ (l : List Int) (m : List Int), (∀ p ∈ l, ptrW p = true → p ∈ S) → ∀ y ∈ l.foldl (visF L f) m, y ∈ m ∨ y ∈ S := by
        intro l
        induction l with
        | nil => exact fun m _ y hy => .inl hy
        | cons p l ih =>
          intro m hp y hy
          rcases ih _ (fun q hq => hp q (by simp [hq])) y hy with h1 | h1
          · exact vis_min hS f m p (hp p (by simp)) y h1
          · exact .inr h1
      intro y hy
      unfold finW at hy
      split at hy
      · exact key _ m (hS x (hx hpx)) y hy
      · rcases List.mem_append.1 hy with h1 | h1
        · exact key _ m (hS x (hx hpx)) y h1
        · rw [List.mem_singleton.1 h1]; exact .inr (hx hpx)
/-- All objects are reached from a word. -/
def AllR (L : List ObjA) (x : Int) : Prop := FindOk L x ∧ ∀ y ∈ wordsA 0 L, y ∈ rchW L [x]
theorem rch_one {L : List ObjA} (hw : WfA L) {x : Int} (h : FindOk L x) : RchOk L [x] (rchW L [x]) := rch_ok hw fun y hy => by rw [List.mem_singleton.1 hy]; exact h
theorem put_all {room : Nat} {t : List CellD} (hr : room ≤ 262144) (h : putE room [] t = 0) : AllR (putL room [] t) (putX room [] t) ∧ WfA (putL room [] t) ∧ usedA (putL room [] t) = totalA t := by
  have e1 : putL room [] t = (putF [] t).1 := by unfold putL; rw [if_pos h]
  have e2 : putX room [] t = (putF [] t).2.2 := by unfold putX; rw [if_pos h]
  have h0 : (rightE t).1 = 0 := by
    unfold putE at h
    split at h
    · exact h
    · rename_i h'; simpa using h'
  obtain ⟨hg, hl0, hl1⟩ := rightE_ok h0
  have hf : ¬ (room : Int) - (usedA [] : Int) < (totalA t : Int) := by
    unfold putE at h
    rw [if_neg (by simp [h0])] at h
    intro hc
    rw [if_pos hc] at h
    omega
  have hu0 : usedA [] = 0 := rfl
  have S := put_spec WfA.nil hg hl0 (by omega)
  have hinv : Inv ([] : List ObjA).length (putF [] t).1 [(putF [] t).2.2] := by
    refine fold_inv t [] ([], [], 0) 1 ⟨Ext.refl [], WfA.nil, fun p hp => (by cases hp), by simp [costs, totalA], .inl ⟨rfl, rfl, rfl⟩⟩ hg (by rw [List.nil_append]; omega) (fun _ => ?_) (fun h => by omega)
    rfl
  rw [e1, e2]
  refine ⟨⟨S.fx, fun y hy => ?_⟩, S.wf, by rw [S.used, hu0]; omega⟩
  have hR := rch_one S.wf S.fx
  have hv : visW (putF [] t).1 [] (putF [] t).2.2 = wordsA 0 (putF [] t).1 := hinv
  rw [← hv] at hy
  rcases vis_min hR.parts _ [] _ (fun hp => hR.roots _ (by simp) hp) y hy with h1 | h1
  · cases h1
  · exact h1
theorem all_used {L : List ObjA} (hw : WfA L) (hu : usedA L ≤ 262144) {x : Int} (h : AllR L x) : costsW L (rchW L [x]) = usedA L := by
  have hR := rch_one hw h.1
  refine Nat.le_antisymm (rch_used hw hu hR.met) ?_
  have h1 := cost_sub (L := L) _ _ (words_nodup hw hu) h.2
  have h2 : costsW L (wordsA 0 L) = usedA L := by
    unfold costsW usedA
    rw [costs_words hw hu]
  omega
theorem parts_none {L : List ObjA} {x : Int} (h : findA L x = none) : partsW L x = [] := by
  unfold partsW
  rw [seen_none h]
/-- A tuple of a word twice. -/
theorem all_tuple {L : List ObjA} (hw : WfA L) {x : Int} (hu : usedA L + 3 ≤ 262144) (h : AllR L x) : AllR (makeA L (tupA 2) [x, x]).1 (makeA L (tupA 2) [x, x]).2 ∧ WfA (makeA L (tupA 2) [x, x]).1 ∧ usedA (makeA L (tupA 2) [x, x]).1 = usedA L + 3 := by
  obtain ⟨k1, k2, _⟩ := tupA_ok (n := 2) (by omega)
  have hps : ∀ p ∈ [x, x], FindOk L p := fun p hp => by
    simp at hp
    rw [hp]
    exact h.1
  have hc : costC (tupA 2) = 3 := by rw [tupA_cost]
  have hlen : [x, x].length = kidsD (tupA 2) := by rw [k2]; rfl
  have hw2 := make_wf hw k1 hlen hps
  have hfn := make_find (parts := [x, x]) hw k1 (by rw [hc]; exact hu)
  have hsn := make_seen hw k1 hlen (by rw [hc]; exact hu)
  have hus := make_used (l := L) k1 [x, x]
  have hext := makeA_ext L (tupA 2) [x, x]
  have hbig : ¬ SmallC (tupA 2) := kids_big (by rw [k2]; omega)
  have hmk := makeA_big (l := L) hbig [x, x]
  have hwd : wordsA 0 (makeA L (tupA 2) [x, x]).1 = wordsA 0 L ++ [(makeA L (tupA 2) [x, x]).2] := by
    rw [hmk, wordsA_snoc, Nat.zero_add]
  rw [hc] at hus
  obtain ⟨L2, hL2⟩ : ∃ l, (makeA L (tupA 2) [x, x]).1 = l := ⟨_, rfl⟩
  obtain ⟨x2, hx2⟩ : ∃ y, (makeA L (tupA 2) [x, x]).2 = y := ⟨_, rfl⟩
  have hpt : ptrW x2 = true := by
    rw [← hx2, hmk]
    have := kdW_wordAt (c := tupA 2) (p := usedA L) (by omega)
    unfold ptrW
    show (kdW (wordAt (tupA 2) (usedA L)) == 3 || kdW (wordAt (tupA 2) (usedA L)) == 4) = true
    rw [this]
    split <;> rfl
  rw [hL2] at hw2 hfn hsn hus hext hwd ⊢
  rw [hx2] at hfn hsn hwd ⊢
  have hR2 := rch_one hw2 hfn
  have hin : x2 ∈ rchW L2 [x2] := hR2.roots x2 (by simp) hpt
  have hxin : ptrW x = true → x ∈ rchW L2 [x2] := fun hp => hR2.parts x2 hin x (by unfold partsW; rw [hsn]; simp) hp
  refine ⟨⟨hfn, fun y hy => ?_⟩, hw2, hus⟩
  rw [hwd] at hy
  rcases List.mem_append.1 hy with hy | hy
  · have hcl : ∀ z ∈ rchW L2 [x2], ∀ p ∈ partsW L z, ptrW p = true → p ∈ rchW L2 [x2] := fun z hz p hp hq => by
      cases hf : findA L z with
      | none => rw [parts_none hf] at hp; cases hp
      | some k =>
        have hzo : FindOk L z := ⟨by rw [hf]; rfl, (hR2.met.ok z hz).1.2⟩
        exact hR2.parts z hz p (by rw [parts_ext hext hzo]; exact hp) hq
    exact rch_min hw hcl _ [] [x] (Nat.lt_succ_self _) ⟨MetOk.nil L, fun p hp => by rw [List.mem_singleton.1 hp]; exact h.1, fun p hp => (by cases hp)⟩ (fun p hp => (by cases hp)) (fun p hp hq => by rw [List.mem_singleton.1 hp] at hq ⊢; exact hxin hq) y (h.2 y hy)
  · rw [List.mem_singleton.1 hy]
    exact hin
end Go.Proofs.YthgnihckeckaiaaDoor.Tm
