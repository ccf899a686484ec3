/- What a Put makes is reached once: plain lists. -/
import Derived.Test.YthgnihckeckaiaaDoorCoW
namespace Go.Proofs.YthgnihckeckaiaaDoor.Tm
set_option linter.unusedVariables false
set_option linter.unusedSimpArgs false

theorem parts_ext {l l' : List ObjA} (e : Ext l l') {x : Int} (h : FindOk l x) : partsW l' x = partsW l x := by
  obtain ⟨c, ps, hs⟩ := find_seen h
  unfold partsW
  rw [hs, e.seen hs]
theorem visF_ext {l l' : List ObjA} (hw : WfA l) (e : Ext l l') : ∀ (f : Nat) (m : List Int) (x : Int), FindOk l x → visF l' f m x = visF l f m x
  | 0, _, _, _ => rfl
  | f + 1, m, x, h => by
    unfold visF
    rw [parts_ext e h, foldl_same (partsW l x) m (fun p hp m => visF_ext hw e f m p (parts_rank hw hp).1)]
theorem vis_ext {l l' : List ObjA} (hw : WfA l) (hw' : WfA l') (e : Ext l l') (m : List Int) {x : Int} (h : FindOk l x) : visW l' m x = visW l m x := by
  have hlen : l.length ≤ l'.length := by obtain ⟨k, rfl⟩ := e; simp
  have hrk : rkW l' x ≤ l.length := by
    obtain ⟨k, hk⟩ := Option.isSome_iff_exists.1 h.1
    have := findA_lt hk
    rw [rk_find (e.find hk)]
    omega
  unfold visW
  rw [visF_fuel hw' (l.length + 1) (l'.length + 2) (l.length + 2) x m (by omega) (by omega) (by omega)]
  exact visF_ext hw e _ m x h
theorem vfold_ext {l l' : List ObjA} (hw : WfA l) (hw' : WfA l') (e : Ext l l') (R : List Int) (m : List Int) (h : ∀ x ∈ R, FindOk l x) : R.foldl (visW l') m = R.foldl (visW l) m :=
  foldl_same R m fun p hp m => vis_ext hw hw' e m (h p hp)
/-- The words of what has come. -/
def newW (n0 : Nat) (l : List ObjA) : List Int := (wordsA 0 l).drop n0
def Inv (n0 : Nat) (l : List ObjA) (R : List Int) : Prop := R.foldl (visW l) [] = newW n0 l
theorem inv_make {n0 : Nat} {l : List ObjA} {c : CellD} {E parts : List Int} (hw : WfA l) (he : cellE c = 0) (hk : parts.length = kidsD c) (hp : ∀ p ∈ parts, FindOk l p) (hE : ∀ p ∈ E, FindOk l p) (hu : usedA l + costC c ≤ 262144) (hn : n0 ≤ l.length) (h : Inv n0 l (E ++ parts)) :
    Inv n0 (makeA l c parts).1 (E ++ [(makeA l c parts).2]) := by
  by_cases hs : SmallC c
  · have hk0 : kidsD c = 0 := by
      unfold kidsD
      rcases hs with hs | hs
      · rw [if_neg (by omega), if_neg (by omega)]
      · rw [if_neg (by omega), if_neg (by omega)]
    have hpn : parts = [] := List.eq_nil_of_length_eq_zero (by omega)
    subst hpn
    rw [List.append_nil] at h
    have e1 : (makeA l c []).1 = l ∧ ptrW (makeA l c []).2 = false := by
      unfold makeA
      split
      · exact ⟨rfl, by show ptrW 2 = false; decide⟩
      · split
        · refine ⟨rfl, ?_⟩
          simp [ptrW, kdW_intW]
        · rename_i h1 h2
          rcases hs with hs | hs
          · exact absurd hs h1
          · exact absurd hs h2
    unfold Inv
    rw [e1.1, List.foldl_append, List.foldl_cons, List.foldl_nil, vis_skip hw (.inl e1.2)]
    exact h
  · have hw' := make_wf hw he hk hp
    have hseen := make_seen hw he hk hu
    have hfx := make_find hw he hu (parts := parts)
    have hext := makeA_ext l c parts
    rw [makeA_big hs] at hw' hseen hfx hext ⊢
    simp only at hw' hseen hfx hext ⊢
    have hc := cost_pos he hs
    have hF := fold_ok hw E [] ⟨List.nodup_nil, fun x hx => (by cases hx)⟩ hE
    have hF' : MetOk (l ++ [⟨c, parts, sizesA l parts⟩]) (E.foldl (visW l) []) := ⟨hF.nodup, fun y hy => ⟨(hF.ok y hy).1.ext hext, (hF.ok y hy).2⟩⟩
    have hfw := findA_new (l := l) ⟨c, parts, sizesA l parts⟩ hw.cost (by omega)
    have hptr : ptrW (wordAt c (usedA l)) = true := by
      have := kdW_wordAt (c := c) (p := usedA l) (by omega)
      unfold ptrW
      rw [this]
      split <;> rfl
    have hnot : wordAt c (usedA l) ∉ E.foldl (visW l) [] := fun hm => by
      obtain ⟨k, hk⟩ := Option.isSome_iff_exists.1 (hF.ok _ hm).1.1
      have hlt := findA_lt hk
      have := hext.find hk
      rw [hfw] at this
      injection this with this
      omega
    have hpw : partsW (l ++ [⟨c, parts, sizesA l parts⟩]) (wordAt c (usedA l)) = parts := by unfold partsW; rw [hseen]
    unfold Inv at h ⊢
    rw [List.foldl_append, List.foldl_cons, List.foldl_nil, vfold_ext hw hw' hext E [] hE, (vis_new hw' hF' hptr hnot).2, hpw, vfold_ext hw hw' hext parts _ hp]
    rw [List.foldl_append] at h
    rw [h]
    unfold newW
    rw [wordsA_snoc, List.drop_append_of_le_length (by rw [wordsA_len]; exact hn), Nat.zero_add]
/-- The words that the open cells hold, the lowest first; st: the highest first. -/
def rts (st : List OpenA) : List Int := st.reverse.flatMap OpenA.parts
theorem rts_cons (o : OpenA) (st : List OpenA) : rts (o :: st) = rts st ++ o.parts := by simp [rts]
theorem rts_ok {l : List ObjA} {st : List OpenA} (h : ∀ p ∈ st, OpOk l p) : ∀ x ∈ rts st, FindOk l x := by
  intro x hx
  unfold rts at hx
  obtain ⟨o, ho, hxo⟩ := List.mem_flatMap.1 hx
  exact (h o (by simpa using ho)).parts x hxo
def rootsOf (st : List OpenA) (x : Int) : List Int := if st = [] then [x] else rts st
theorem up_inv {n0 : Nat} : ∀ (st : List OpenA) (l : List ObjA) (x : Int), WfA l → (∀ p ∈ st, OpOk l p) → FindOk l x → usedA l + costs st ≤ 262144 → n0 ≤ l.length → Inv n0 l (rts st ++ [x]) → Inv n0 (upA l st x).1 (rootsOf (upA l st x).2.1 (upA l st x).2.2)
  | [], l, x, _, _, _, _, _, h => h
  | o :: st, l, x, hw, ho, hx, hu, hn, h => by
    unfold upA
    rw [rts_cons, List.append_assoc] at h
    by_cases hl : o.parts.length + 1 < o.want
    · rw [if_pos hl]
      unfold rootsOf
      rw [if_neg (by simp), rts_cons]
      exact h
    · rw [if_neg hl]
      have U := up_step hw ho hx hu hl
      have hlen : l.length ≤ (makeA l o.cell (o.parts ++ [x])).1.length := by obtain ⟨k, hk⟩ := U.ext; rw [hk]; simp
      rw [costs_cons] at hu
      have k := ho o (by simp)
      have h' := inv_make hw k.good U.len U.parts (rts_ok fun p hp => ho p (by simp [hp])) (by omega) hn h
      exact up_inv st _ _ U.wf U.ok U.fx (by rw [U.used, costs_cons]; omega) (by omega) h'
theorem step_inv {n0 : Nat} {l0 l : List ObjA} {st : List OpenA} {x : Int} {T : List CellD} {o : Int} {c : CellD} (h : PutInv l0 l st x T o) (he : cellE c = 0) (hu : usedA l0 + totalA (T ++ [c]) ≤ 262144) (hn : n0 ≤ l.length) (hi : Inv n0 l (rts st)) :
    Inv n0 (putStep (l, st, x) c).1 (rootsOf (putStep (l, st, x) c).2.1 (putStep (l, st, x) c).2.2) := by
  have hus := h.used
  rw [totalA_snoc] at hu
  unfold putStep
  by_cases hk : 0 < kidsD c
  · rw [if_pos hk]
    unfold rootsOf
    rw [if_neg (by simp), rts_cons]
    simpa using hi
  · rw [if_neg hk]
    have hk0 : kidsD c = 0 := by omega
    have e := makeA_ext l c []
    have hw := make_wf h.wf he (parts := []) (by simp [hk0]) (fun p hp => by cases hp)
    have hf := make_find (parts := []) h.wf he (by omega)
    have hm := make_used (l := l) he []
    have hlen : l.length ≤ (makeA l c []).1.length := by obtain ⟨k, hk⟩ := e; rw [hk]; simp
    have h' := inv_make (parts := []) h.wf he (by simp [hk0]) (fun p hp => by cases hp) (rts_ok h.ok) (by omega) hn (by rw [List.append_nil]; exact hi)
    exact up_inv st _ _ hw (fun p hp => (h.ok p hp).ext e) hf (by rw [hm]; omega) (Nat.le_trans hn hlen) h'
theorem fold_inv {l0 : List ObjA} : ∀ (u T : List CellD) (s : List ObjA × List OpenA × Int) (o : Int), PutInv l0 s.1 s.2.1 s.2.2 T o → Good u o → usedA l0 + totalA (T ++ u) ≤ 262144 → (0 < o → Inv l0.length s.1 (rts s.2.1)) → (o = 0 → Inv l0.length s.1 [s.2.2]) → Inv l0.length (u.foldl putStep s).1 [(u.foldl putStep s).2.2]
  | [], T, s, o, h, g, hu, h1, h2 => by
    have g0 : o = 0 := g
    exact h2 g0
  | c :: u, T, s, o, h, g, hu, h1, h2 => by
    obtain ⟨g1, g2, g3⟩ := g
    have e : T ++ c :: u = (T ++ [c]) ++ u := by simp
    rw [e] at hu
    have hu' : usedA l0 + totalA (T ++ [c]) ≤ 262144 := by rw [totalA_append] at hu; omega
    have hp := put_step (c := c) h g1 g2 hu'
    have hn : l0.length ≤ s.1.length := by obtain ⟨k, hk⟩ := h.ext; rw [hk]; simp
    have hs := step_inv h g1 hu' hn (h1 g2)
    refine fold_inv u (T ++ [c]) (putStep s c) _ hp g3 hu (fun ho => ?_) (fun ho => ?_)
    · have hne : (putStep s c).2.1 ≠ [] := by
        rcases hp.tell with ⟨_, ht, _⟩ | ⟨hn, _, _⟩ | ⟨_, _, _, h0⟩
        · simp at ht
        · exact hn
        · omega
      have hs' := hs
      unfold rootsOf at hs'
      rw [if_neg hne] at hs'
      exact hs'
    · have hnil : (putStep s c).2.1 = [] := by
        rcases hp.tell with ⟨_, ht, _⟩ | ⟨_, _, h0⟩ | ⟨h0, _, _, _⟩
        · simp at ht
        · omega
        · exact h0
      have hs' := hs
      unfold rootsOf at hs'
      rw [if_pos hnil] at hs'
      exact hs'
/-- What is put is reached once. -/
theorem put_fresh {room : Nat} {L2 : List ObjA} {t : List CellD} (hw : WfA L2) (hr : room ≤ 262144) (hu : usedA L2 ≤ room) (h : putE room L2 t = 0) : costsW (putL room L2 t) (visW (putL room L2 t) [] (putX room L2 t)) = totalA t := by
  have e1 : putL room L2 t = (putF L2 t).1 := by unfold putL; rw [if_pos h]
  have e2 : putX room L2 t = (putF L2 t).2.2 := by unfold putX; rw [if_pos h]
  have h0 : (rightE t).1 = 0 := by
    unfold putE at h
    split at h
    · exact h
    · rename_i h'; simpa using h'
  obtain ⟨hg, hl0, hl1⟩ := rightE_ok h0
  have hf : ¬ (room : Int) - (usedA L2 : Int) < (totalA t : Int) := by
    unfold putE at h
    rw [if_neg (by simp [h0])] at h
    intro hc
    rw [if_pos hc] at h
    omega
  have S := put_spec hw hg hl0 (by omega)
  have hinv : Inv L2.length (putF L2 t).1 [(putF L2 t).2.2] := by
    refine fold_inv t [] (L2, [], 0) 1 ⟨Ext.refl L2, hw, fun p hp => (by cases hp), by simp [costs, totalA], .inl ⟨rfl, rfl, rfl⟩⟩ hg (by rw [List.nil_append]; omega) (fun _ => ?_) (fun h => by omega)
    unfold Inv newW rts
    rw [List.drop_eq_nil_of_le (by rw [wordsA_len]; exact Nat.le_refl _)]
    rfl
  rw [e1, e2]
  have hv : visW (putF L2 t).1 [] (putF L2 t).2.2 = newW L2.length (putF L2 t).1 := hinv
  rw [hv]
  have huse := S.used
  have hcw := costs_words S.wf (by rw [huse]; omega)
  unfold costsW newW
  rw [List.map_drop, hcw]
  obtain ⟨k, hk⟩ := S.ext
  rw [hk] at huse ⊢
  rw [List.map_append, List.drop_left' (by simp)]
  have e3 : usedA (L2 ++ k) = usedA L2 + usedA k := by simp [usedA]
  have e4 : (k.map fun o => costC o.cell).sum = usedA k := rfl
  rw [e4]
  omega
end Go.Proofs.YthgnihckeckaiaaDoor.Tm
