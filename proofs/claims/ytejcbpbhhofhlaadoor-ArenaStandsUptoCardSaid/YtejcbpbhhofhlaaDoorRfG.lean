/- The reference's arena follows the program's: plain lists. -/
import Derived.Test.YtejcbpbhhofhlaaDoorRfP
import Derived.Test.YtejcbpbhhofhlaaDoorArT
namespace Go.Proofs.YtejcbpbhhofhlaaDoor.Tm
set_option linter.unusedVariables false
set_option linter.unusedSimpArgs false

def valR (l : List ObjA) (p : Int) : ValR := match findA l p with
  | some k => if k < 0 then ⟨-1, cellW p⟩ else ⟨k, ((l[k.toNat]?).map ObjA.cell).getD zeroR⟩
  | none => ⟨0, zeroR⟩
def refOf (l : List ObjA) : List ObjR := l.map fun o => ⟨o.cell, o.parts.map (valR l)⟩
theorem refOf_len (l : List ObjA) : (refOf l).length = l.length := by simp [refOf]
theorem usedR_ref (l : List ObjA) : totalA ((refOf l).map ObjR.cell) = usedA l := by
  unfold refOf usedA totalA
  rw [List.map_map, List.map_map]
  rfl
theorem valR_ext {l l' : List ObjA} (e : Ext l l') {p : Int} (h : FindOk l p) : valR l' p = valR l p := by
  obtain ⟨k, hk⟩ := Option.isSome_iff_exists.1 h.1
  have hlt := findA_lt hk
  unfold valR
  rw [e.find hk, hk]
  simp only
  split
  · rfl
  · obtain ⟨m, rfl⟩ := e
    rw [List.getElem?_append_left (by omega)]
theorem val_seen {l : List ObjA} {p k : Int} {c : CellD} {ps : List Int} (hf : findA l p = some k) (hs : seenA l p = some (c, ps)) : valR l p = ⟨k, c⟩ := by
  have hlt := findA_lt hf
  unfold seenA at hs
  rw [hf] at hs
  unfold valR
  rw [hf]
  simp only at hs ⊢
  by_cases hk : k < 0
  · rw [if_pos hk] at hs ⊢
    simp at hs
    rw [← hs.1, show k = -1 by omega]
  · rw [if_neg hk] at hs ⊢
    rw [List.getElem?_eq_getElem (by omega : k.toNat < l.length)] at hs ⊢
    simp at hs
    simp [hs.1]
theorem ext_snoc (l : List ObjA) (o : ObjA) : Ext l (l ++ [o]) := ⟨[o], rfl⟩
theorem ext_take (l : List ObjA) (k : Nat) : Ext (l.take k) l := ⟨l.drop k, by simp⟩
theorem map_valR {l l' : List ObjA} (e : Ext l l') {ps : List Int} (h : ∀ p ∈ ps, FindOk l p) : ps.map (valR l') = ps.map (valR l) := List.map_congr_left fun p hp => valR_ext e (h p hp)
theorem refOf_snoc {l : List ObjA} {o : ObjA} (hw : WfA l) (ho : ∀ p ∈ o.parts, FindOk l p) : refOf (l ++ [o]) = refOf l ++ [⟨o.cell, o.parts.map (valR l)⟩] := by
  unfold refOf
  rw [List.map_append]
  congr 1
  · refine List.map_congr_left fun o' ho' => ?_
    obtain ⟨i, hi, rfl⟩ := List.mem_iff_getElem.1 ho'
    rw [map_valR (ext_snoc l o) (fun p hp => FindOk.ext ((hw i hi).parts p hp) (ext_take l i))]
  · simp only [List.map_cons, List.map_nil]
    rw [map_valR (ext_snoc l o) ho]
theorem make_ref_big {l : List ObjA} {c : CellD} {ws : List Int} (hw : WfA l) (he : cellE c = 0) (hs : ¬ SmallC c) (hk : ws.length = kidsD c) (hp : ∀ p ∈ ws, FindOk l p) (hu : usedA l + costC c ≤ 262144) :
    makeR (refOf l) ⟨c, ws.map (valR l)⟩ = (refOf (makeA l c ws).1, valR (makeA l c ws).1 (makeA l c ws).2) := by
  have hc := cost_pos he hs
  have hseen := make_seen hw he hk hu
  have hfind : findA (makeA l c ws).1 (makeA l c ws).2 = some (l.length : Int) := by
    rw [makeA_big hs]
    exact findA_new _ hw.cost (by omega)
  rw [val_seen hfind hseen, makeA_big hs]
  unfold makeR
  rw [refOf_len, refOf_snoc hw hp]
theorem make_ref_leaf {l : List ObjA} {c : CellD} (hw : WfA l) (he : cellE c = 0) (hk : kidsD c = 0) (hu : usedA l + costC c ≤ 262144) : leafR (refOf l) c = (refOf (makeA l c []).1, valR (makeA l c []).1 (makeA l c []).2) := by
  by_cases hs : SmallC c
  · have hseen := make_seen (parts := []) hw he hk.symm hu
    unfold leafR
    rw [if_pos hs]
    rcases hs with hs | hs
    · have e : makeA l c [] = (l, 2) := by unfold makeA; rw [if_pos hs]
      rw [e] at hseen ⊢
      rw [val_seen (find_nilW l) hseen]
    · have e : makeA l c [] = (l, intW c.n) := by unfold makeA; rw [if_neg (by omega), if_pos hs]
      rw [e] at hseen ⊢
      rw [val_seen (find_intW l c.n) hseen]
  · have h := make_ref_big (ws := []) hw he hs hk.symm (fun p hp => by cases hp) hu
    unfold leafR
    rw [if_neg hs]
    exact h

/-! a term's object, what it holds first -/
def putT : Nat → List ObjA → List CellD → List ObjA × Int
  | 0, l, t => (l, 0)
  | f + 1, l, t => makeA ((partsE t).foldl (fun s k => ((putT f s.1 k).1, s.2 ++ [(putT f s.1 k).2])) (l, [])).1 (t.headD zeroR) ((partsE t).foldl (fun s k => ((putT f s.1 k).1, s.2 ++ [(putT f s.1 k).2])) (l, [])).2
def putK (f : Nat) (s : List ObjA × List Int) (ps : List (List CellD)) : List ObjA × List Int := ps.foldl (fun s k => ((putT f s.1 k).1, s.2 ++ [(putT f s.1 k).2])) s
theorem putT_eq (f : Nat) (l : List ObjA) (t : List CellD) : putT (f + 1) l t = makeA (putK f (l, []) (partsE t)).1 (t.headD zeroR) (putK f (l, []) (partsE t)).2 := rfl
theorem putK_cons (f : Nat) (s : List ObjA × List Int) (p : List CellD) (ps : List (List CellD)) : putK f s (p :: ps) = putK f ((putT f s.1 p).1, s.2 ++ [(putT f s.1 p).2]) ps := rfl
theorem putK_snoc (f : Nat) (s : List ObjA × List Int) (ps : List (List CellD)) (p : List CellD) : putK f s (ps ++ [p]) = ((putT f (putK f s ps).1 p).1, (putK f s ps).2 ++ [(putT f (putK f s ps).1 p).2]) := by
  unfold putK
  rw [List.foldl_append]
  rfl
theorem parts_short {t : List CellD} : ∀ p ∈ partsE t, p.length < t.length := by
  cases t with
  | nil => intro p hp; cases hp
  | cons c l =>
    intro p hp
    have := partsK_small (kidsD c) l p hp
    simp; omega
theorem fold_kids (f : Nat) (ih : ∀ t : List CellD, t.length ≤ f → Good t 1 → ∀ l st x, t.foldl putStep (l, st, x) = upA (putT f l t).1 st (putT f l t).2) (c : CellD) (k : Nat) (st : List OpenA) :
    ∀ (ps : List (List CellD)) (l : List ObjA) (ws : List Int) (x : Int), ps ≠ [] → ws.length + ps.length = k → (∀ p ∈ ps, p.length ≤ f ∧ Good p 1) →
      ps.flatten.foldl putStep (l, ⟨c, ws, k⟩ :: st, x) = upA (makeA (putK f (l, ws) ps).1 c (putK f (l, ws) ps).2).1 st (makeA (putK f (l, ws) ps).1 c (putK f (l, ws) ps).2).2
  | [], _, _, _, h, _, _ => absurd rfl h
  | p :: ps, l, ws, x, _, hk, hp => by
    have hp0 := hp p (by simp)
    rw [List.flatten_cons, List.foldl_append, ih p hp0.1 hp0.2, upA, putK_cons]
    cases ps with
    | nil =>
      rw [if_neg (by simp at hk; simp only; omega)]
      rfl
    | cons q qs =>
      rw [if_pos (by simp at hk; simp only; omega)]
      exact fold_kids f ih c k st (q :: qs) _ _ _ (by simp) (by simp at hk ⊢; omega) (fun r hr => hp r (by simp at hr ⊢; exact .inr hr))
theorem fold_term : ∀ (f : Nat) (t : List CellD), t.length ≤ f → Good t 1 → ∀ (l : List ObjA) (st : List OpenA) (x : Int), t.foldl putStep (l, st, x) = upA (putT f l t).1 st (putT f l t).2
  | 0, t, hf, hg => absurd (good_len hg) (by omega)
  | f + 1, t, hf, hg => by
    intro l st x
    obtain ⟨c, ht, hce, hpl, hpg⟩ := parts_good hg
    have hs := parts_short (t := t)
    have hhd : t.headD zeroR = c := by rw [ht]; rfl
    rw [putT_eq, hhd]
    have hgo : t.foldl putStep (l, st, x) = (partsE t).flatten.foldl putStep (putStep (l, st, x) c) := by
      conv => lhs; rw [ht]
      rfl
    rw [hgo]
    unfold putStep
    by_cases hk : 0 < kidsD c
    · rw [if_pos hk]
      exact fold_kids f (fun p hp hg => fold_term f p hp hg) c (kidsD c) st (partsE t) l [] x (by intro e; rw [e] at hpl; simp at hpl; omega) (by simp [hpl]) (fun p hp => ⟨by have := hs p hp; omega, hpg p hp⟩)
    · rw [if_neg hk]
      have e : partsE t = [] := List.eq_nil_of_length_eq_zero (by omega)
      rw [e]
      rfl
theorem putF_term {f : Nat} {t : List CellD} (hf : t.length ≤ f) (hg : Good t 1) (l : List ObjA) : putF l t = ((putT f l t).1, [], (putT f l t).2) := by
  unfold putF
  rw [fold_term f t hf hg]
  rfl
structure PutSpec2 (l : List ObjA) (t : List CellD) (l' : List ObjA) (x : Int) : Prop where
  ext : Ext l l'
  wf : WfA l'
  used : usedA l' = usedA l + totalA t
  fx : FindOk l' x
theorem putT_spec {f : Nat} {t : List CellD} (hf : t.length ≤ f) (hg : Good t 1) {l : List ObjA} (hw : WfA l) (hu : usedA l + totalA t ≤ 262144) : PutSpec2 l t (putT f l t).1 (putT f l t).2 := by
  have h := put_inv hw t [] (l, [], 0) 1 ⟨Ext.refl l, hw, fun p hp => (by cases hp), by simp [costs, totalA], .inl ⟨rfl, rfl, rfl⟩⟩ hg (by simpa using hu)
  rw [List.nil_append] at h
  have e := putF_term hf hg l
  unfold putF at e
  rw [e] at h
  obtain ⟨h1, h2, h3, h4, h5⟩ := h
  rcases h5 with ⟨_, h5, _⟩ | ⟨h5, _, _⟩ | ⟨_, h5, _, _⟩
  · exact absurd (congrArg List.length h5) (good_len hg)
  · exact absurd rfl h5
  · exact ⟨h1, h2, by simpa [costs] using h4, h5⟩
/-- What the kids leave. -/
structure KidSpec (f : Nat) (l : List ObjA) (ps : List (List CellD)) : Prop where
  ext : Ext l (putK f (l, []) ps).1
  wf : WfA (putK f (l, []) ps).1
  used : usedA (putK f (l, []) ps).1 = usedA l + totalA ps.flatten
  fx : ∀ p ∈ (putK f (l, []) ps).2, FindOk (putK f (l, []) ps).1 p
  len : (putK f (l, []) ps).2.length = ps.length
  ref : layF f (refOf l) ps = (refOf (putK f (l, []) ps).1, (putK f (l, []) ps).2.map (valR (putK f (l, []) ps).1))
theorem lay_put : ∀ (f : Nat) (t : List CellD), t.length ≤ f → Good t 1 → ∀ (l : List ObjA), WfA l → usedA l + totalA t ≤ 262144 → layR f (refOf l) t = (refOf (putT f l t).1, valR (putT f l t).1 (putT f l t).2)
  | 0, t, hf, hg => absurd (good_len hg) (by omega)
  | f + 1, t, hf, hg => by
    intro l hw hu
    obtain ⟨c, ht, hce, hpl, hpg⟩ := parts_good hg
    have hs := parts_short (t := t)
    have hhd : t.headD zeroR = c := by rw [ht]; rfl
    have htot : totalA t = costC c + totalA (partsE t).flatten := by conv => lhs; rw [ht]
                                                                     simp [totalA]
    have kid : ∀ ps : List (List CellD), (∀ p ∈ ps, p.length ≤ f ∧ Good p 1) → usedA l + totalA ps.flatten ≤ 262144 → KidSpec f l ps := by
      intro ps
      induction ps using snoc_ind with
      | nil => intro _ _; exact ⟨Ext.refl l, hw, by simp [putK, totalA], fun p hp => (by cases hp), rfl, rfl⟩
      | append_singleton ps p ih =>
        intro hp hu
        have e1 : (ps ++ [p]).flatten = ps.flatten ++ p := by simp
        rw [e1, totalA_append] at hu
        have K := ih (fun q hq => hp q (by simp [hq])) (by omega)
        have hp0 := hp p (by simp)
        have S := putT_spec hp0.1 hp0.2 K.wf (by rw [K.used]; omega)
        have L := lay_put f p hp0.1 hp0.2 _ K.wf (by rw [K.used]; omega)
        refine ⟨?_, ?_, ?_, ?_, ?_, ?_⟩
        · rw [putK_snoc]; exact K.ext.trans S.ext
        · rw [putK_snoc]; exact S.wf
        · rw [putK_snoc, e1, totalA_append]
          simp only
          rw [S.used, K.used]; omega
        · rw [putK_snoc]
          intro q hq
          rcases List.mem_append.1 hq with hq | hq
          · exact (K.fx q hq).ext S.ext
          · rw [List.mem_singleton.1 hq]; exact S.fx
        · rw [putK_snoc]; simp [K.len]
        · rw [putK_snoc, layF_snoc, K.ref]
          simp only
          rw [L, List.map_append, map_valR S.ext K.fx]
          rfl
    have K := kid (partsE t) (fun p hp => ⟨by have := hs p hp; omega, hpg p hp⟩) (by omega)
    rw [putT_eq, hhd]
    by_cases hk : (partsE t).length = 0
    · have e : partsE t = [] := List.eq_nil_of_length_eq_zero hk
      rw [layR_leaf hk, hhd, e]
      exact make_ref_leaf hw hce (by omega) (by omega)
    · rw [layR_hold hk, hhd, K.ref]
      exact make_ref_big K.wf hce (kids_big (by omega)) (by rw [K.len, hpl]) K.fx (by rw [K.used]; omega)
end Go.Proofs.YtejcbpbhhofhlaaDoor.Tm
