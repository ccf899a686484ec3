/- What Collect makes: plain lists. -/
import Derived.Test.YthgnihckeckaiaaDoorSwP
namespace Go.Proofs.YthgnihckeckaiaaDoor.Tm
set_option linter.unusedVariables false
set_option linter.unusedSimpArgs false

/-- Where a word stands in the new arena. -/
def lookM : List (Int × Int) → Int → Int
  | [], _ => 0
  | p :: d, x => if x = p.1 then p.2 else lookM d x
def wherM (d : List (Int × Int)) (x : Int) : Int := if ptrW x = true then lookM d x else x
def oneM (L L' : List ObjA) (d : List (Int × Int)) (w : Int) : List ObjA × Int := makeA L' (cellS (seenA L w)) ((partsW L w).map (wherM d))
def colStep (L : List ObjA) (R : List Int) (s : List ObjA × List (Int × Int)) (w : Int) : List ObjA × List (Int × Int) :=
  if w ∈ R then ((oneM L s.1 s.2 w).1, s.2 ++ [(w, (oneM L s.1 s.2 w).2)]) else s
def colF (L : List ObjA) (R ws : List Int) : List ObjA × List (Int × Int) := ws.foldl (colStep L R) ([], [])
theorem colF_snoc (L : List ObjA) (R ws : List Int) (x : Int) : colF L R (ws ++ [x]) = colStep L R (colF L R ws) x := by simp [colF]
theorem look_mem : ∀ (d : List (Int × Int)) (x : Int), x ∈ d.map Prod.fst → ∃ i, ∃ h : i < d.length, d[i].1 = x ∧ lookM d x = d[i].2
  | [], _, h => by cases h
  | p :: d, x, h => by
    unfold lookM
    by_cases e : x = p.1
    · rw [if_pos e]
      exact ⟨0, by simp, by simp [e], by simp⟩
    · rw [if_neg e]
      have h' : x ∈ d.map Prod.fst := by
        rcases List.mem_cons.1 (show x ∈ p.1 :: d.map Prod.fst from h) with h | h
        · exact absurd h e
        · exact h
      obtain ⟨i, hi, a, b⟩ := look_mem d x h'
      exact ⟨i + 1, by simp; omega, by simpa using a, by simpa using b⟩
theorem look_old : ∀ (d : List (Int × Int)) (p : Int × Int) (x : Int), x ∈ d.map Prod.fst → lookM (d ++ [p]) x = lookM d x
  | [], _, _, h => by cases h
  | q :: d, p, x, h => by
    rw [List.cons_append]
    unfold lookM
    by_cases e : x = q.1
    · rw [if_pos e, if_pos e]
    · rw [if_neg e, if_neg e]
      refine look_old d p x ?_
      rcases List.mem_cons.1 (show x ∈ q.1 :: d.map Prod.fst from h) with h | h
      · exact absurd h e
      · exact h
theorem look_new : ∀ (d : List (Int × Int)) (x v : Int), x ∉ d.map Prod.fst → lookM (d ++ [(x, v)]) x = v
  | [], x, v, _ => by simp [lookM]
  | q :: d, x, v, h => by
    rw [List.cons_append]
    unfold lookM
    have h' : ¬ (x = q.1 ∨ x ∈ d.map Prod.fst) := fun e => h (List.mem_cons.2 e)
    rw [if_neg (fun e => h' (.inl e))]
    exact look_new d x v (fun e => h' (.inr e))
theorem cost_sub {L : List ObjA} : ∀ (a b : List Int), a.Nodup → (∀ x ∈ a, x ∈ b) → costsW L a ≤ costsW L b
  | [], b, _, _ => by simp [costsW]
  | x :: a, b, hn, hs => by
    obtain ⟨b1, b2, rfl⟩ := List.append_of_mem (hs x (by simp))
    have h1 := cost_sub (L := L) a (b1 ++ b2) (List.nodup_cons.1 hn).2 (fun y hy => by
      have h2 := hs y (by simp [hy])
      have hne : y ≠ x := fun e => (List.nodup_cons.1 hn).1 (e ▸ hy)
      simp only [List.mem_append, List.mem_cons] at h2 ⊢
      rcases h2 with h2 | h2 | h2
      · exact .inl h2
      · exact absurd h2 hne
      · exact .inr h2)
    simp only [costsW, List.map_cons, List.sum_cons, List.map_append, List.sum_append] at h1 ⊢
    omega
theorem words_nodup {L : List ObjA} (hw : WfA L) (hu : usedA L ≤ 262144) : (wordsA 0 L).Nodup := by
  rw [List.Nodup, List.pairwise_iff_getElem]
  intro i j hi hj hij
  rw [wordsA_len] at hi hj
  exact words_apart hw hu hi hj (by omega) (List.getElem?_eq_getElem _) (List.getElem?_eq_getElem _)
/-- What stands at a place of the words. -/
theorem word_is {L : List ObjA} (hw : WfA L) (hu : usedA L ≤ 262144) {k : Nat} (h : k < L.length) : ∃ x, (wordsA 0 L)[k]? = some x ∧ findA L x = some (k : Int) ∧ seenA L x = some (L[k].cell, L[k].parts) ∧ FindOk L x ∧ ptrW x = true ∧ kdW x = (if L[k].cell.kind = 7 then 3 else 4) := by
  obtain ⟨x, e1, f1, k1, r0, r1⟩ := word_at hw hu h
  have e2 := wordsA_at L 0 k h
  rw [Nat.zero_add] at e2
  have hx : x = wordAt L[k].cell (usedA (L.take k)) := by rw [e1] at e2; exact Option.some.inj e2
  obtain ⟨s1, _⟩ := word_seen hw hu h
  refine ⟨x, e1, f1, by rw [hx]; exact s1, ⟨by rw [f1]; rfl, r0, r1⟩, ?_, ?_⟩
  · unfold ptrW
    rcases k1 with k1 | k1 <;> rw [k1] <;> decide
  · rw [hx]
    have h1 := used_take k h
    have h2 := used_take_le L (k + 1)
    have h3 := cost_pos (hw k h).good (hw k h).big
    exact kdW_wordAt (by omega)
theorem seen_flat {L : List ObjA} {x : Int} (hx : FindOk L x) (hp : ptrW x = false) : seenA L x = some (cellW x, []) ∧ findA L x = some (-1) := by
  obtain ⟨k, hk⟩ := Option.isSome_iff_exists.1 hx.1
  have h12 : kdW x = 1 ∨ kdW x = 2 := by
    have h34 : ¬ (kdW x = 3 ∨ kdW x = 4) := fun h => by
      unfold ptrW at hp
      rcases h with h | h <;> rw [h] at hp <;> simp at hp
    unfold findA at hk
    split at hk
    · assumption
    · first | (rw [if_neg h34] at hk; cases hk) | cases hk
  have hf : findA L x = some (-1) := by unfold findA; rw [if_pos h12]
  refine ⟨?_, hf⟩
  unfold seenA
  rw [hf]
  simp
structure ColInv (L : List ObjA) (R : List Int) (k : Nat) (L' : List ObjA) (d : List (Int × Int)) : Prop where
  keys : d.map Prod.fst = ((wordsA 0 L).take k).filter (fun x => decide (x ∈ R))
  wf : WfA L'
  words : wordsA 0 L' = d.map Prod.snd
  used : usedA L' = costsW L (d.map Prod.fst)
  cells : ∀ o ∈ L', WfC o.cell
  seen : ∀ x c ps, FindOk L x → (ptrW x = true → x ∈ d.map Prod.fst) → seenA L x = some (c, ps) → seenA L' (wherM d x) = some (c, ps.map (wherM d)) ∧ kdW (wherM d x) = kdW x ∧ FindOk L' (wherM d x)
theorem key_in {L : List ObjA} {R : List Int} {k : Nat} {L' : List ObjA} {d : List (Int × Int)} (h : ColInv L R k L' d) (x : Int) : x ∈ d.map Prod.fst ↔ x ∈ (wordsA 0 L).take k ∧ x ∈ R := by
  rw [h.keys, List.mem_filter, decide_eq_true_eq]
theorem flat_find {L L' : List ObjA} {x : Int} (hx : FindOk L x) (hp : ptrW x = false) : FindOk L' x := by
  obtain ⟨_, hf⟩ := seen_flat hx hp
  have h12 := findA_neg hf
  refine ⟨?_, hx.2⟩
  unfold findA
  rw [if_pos h12]
  rfl
theorem ColInv.start (L : List ObjA) (R : List Int) : ColInv L R 0 [] [] := by
  refine ⟨by simp, WfA.nil, rfl, rfl, fun o ho => (by cases ho), fun x c ps hx hk hs => ?_⟩
  cases hp : ptrW x with
  | true => exact absurd (hk hp) (by simp)
  | false =>
    have he : wherM [] x = x := by unfold wherM; rw [hp]; simp
    rw [he]
    obtain ⟨s1, _⟩ := seen_flat hx hp
    rw [s1] at hs
    cases hs
    exact ⟨(seen_flat (flat_find (L' := []) hx hp) hp).1, rfl, flat_find hx hp⟩
/-- The pointers that an early object holds stand earlier. -/
theorem part_early {L : List ObjA} (hw : WfA L) (hu : usedA L ≤ 262144) {k : Nat} {x p : Int} (hx : (wordsA 0 L)[k]? = some x) (hp : p ∈ partsW L x) (hq : ptrW p = true) : p ∈ (wordsA 0 L).take k := by
  have hk : k < L.length := by
    have := (List.getElem?_eq_some_iff.1 hx).1
    rw [wordsA_len] at this
    exact this
  obtain ⟨x', e1, f1, _⟩ := word_is hw hu hk
  rw [hx] at e1
  cases e1
  obtain ⟨hfp, hr⟩ := parts_rank hw hp
  obtain ⟨j, hj, fj, wj⟩ := ptr_find hfp hq
  rw [rk_find fj, rk_find f1] at hr
  rw [List.mem_iff_getElem?]
  exact ⟨j, by rw [List.getElem?_take_of_lt (by omega)]; exact wj⟩
theorem ColInv.skip {L : List ObjA} {R : List Int} {k : Nat} {L' : List ObjA} {d : List (Int × Int)} (h : ColInv L R k L' d) {x : Int} (hx : (wordsA 0 L)[k]? = some x) (hn : x ∉ R) : ColInv L R (k + 1) L' d := by
  refine ⟨?_, h.wf, h.words, h.used, h.cells, h.seen⟩
  rw [h.keys]
  obtain ⟨hk, e⟩ := List.getElem?_eq_some_iff.1 hx
  rw [List.take_succ_eq_append_getElem hk, List.filter_append, e]
  simp [hn]
theorem keys_nodup {L : List ObjA} (hw : WfA L) (hu : usedA L ≤ 262144) {R : List Int} {k : Nat} {L' : List ObjA} {d : List (Int × Int)} (h : ColInv L R k L' d) : (d.map Prod.fst).Nodup := by
  rw [h.keys]
  exact ((words_nodup hw hu).sublist (List.take_sublist k _)).filter _
theorem ColInv.add {L : List ObjA} (hw : WfA L) (hu : usedA L ≤ 262144) (hc : ∀ o ∈ L, WfC o.cell) {R : List Int} (hR : RchOk L [] R) (hcR : costsW L R ≤ 262144) {k : Nat} {L' : List ObjA} {d : List (Int × Int)} (h : ColInv L R k L' d) {x : Int} (hx : (wordsA 0 L)[k]? = some x) (hn : x ∈ R) :
    ColInv L R (k + 1) (oneM L L' d x).1 (d ++ [(x, (oneM L L' d x).2)]) ∧ ((partsW L x).map (wherM d)).length = kidsD (cellS (seenA L x)) ∧ (∀ p ∈ (partsW L x).map (wherM d), FindOk L' p) ∧ cellE (cellS (seenA L x)) = 0 ∧ WfC (cellS (seenA L x)) ∧ ¬ SmallC (cellS (seenA L x)) ∧ usedA L' + costC (cellS (seenA L x)) ≤ costsW L R ∧ x ∉ d.map Prod.fst := by
  obtain ⟨hkw, ex⟩ := List.getElem?_eq_some_iff.1 hx
  have hk : k < L.length := by rw [wordsA_len] at hkw; exact hkw
  obtain ⟨x', e1, f1, s1, fo, pt, kd⟩ := word_is hw hu hk
  rw [hx] at e1
  cases e1
  have ob := hw k hk
  have hcs : cellS (seenA L x) = L[k].cell := by rw [s1]; rfl
  have hps : partsW L x = L[k].parts := by unfold partsW; rw [s1]
  have hnk : x ∉ d.map Prod.fst := fun hm => by
    have hm := ((key_in h x).1 hm).1
    obtain ⟨j, hj⟩ := List.mem_iff_getElem?.1 hm
    have hjk : j < k := by
      have := (List.getElem?_eq_some_iff.1 hj).1
      rw [List.length_take] at this
      omega
    rw [List.getElem?_take_of_lt hjk] at hj
    exact words_apart hw hu (show j < L.length by omega) hk (by omega) hj hx rfl
  have hpk : ∀ p ∈ partsW L x, ptrW p = true → p ∈ d.map Prod.fst := fun p hp hq => (key_in h p).2 ⟨part_early hw hu hx hp hq, hR.parts x hn p hp hq⟩
  have hfind : ∀ p ∈ (partsW L x).map (wherM d), FindOk L' p := fun q hq => by
    obtain ⟨p, hp, rfl⟩ := List.mem_map.1 hq
    have hfp := (parts_rank hw hp).1
    obtain ⟨c, ps, hs⟩ : ∃ c ps, seenA L p = some (c, ps) := by
      have := seen_is (L := L) p
      rw [hfp.1] at this
      obtain ⟨r, hr⟩ := Option.isSome_iff_exists.1 this
      exact ⟨r.1, r.2, hr⟩
    exact (h.seen p c ps hfp (hpk p hp) hs).2.2
  have hlen : ((partsW L x).map (wherM d)).length = kidsD (cellS (seenA L x)) := by rw [List.length_map, hps, hcs]; exact ob.kids
  have hsub : costsW L (d.map Prod.fst ++ [x]) ≤ costsW L R := by
    refine cost_sub _ _ ?_ (fun y hy => ?_)
    · rw [List.nodup_append]
      exact ⟨keys_nodup hw hu h, by simp, fun a ha b hb e => by rw [List.mem_singleton.1 hb] at e; exact hnk (e ▸ ha)⟩
    · rcases List.mem_append.1 hy with hy | hy
      · exact ((key_in h y).1 hy).2
      · rw [List.mem_singleton.1 hy]; exact hn
  have hcx : costW L x = costC L[k].cell := by unfold costW; rw [s1]
  rw [costsW_snoc, hcx, ← h.used] at hsub
  have hgood : cellE (cellS (seenA L x)) = 0 := by rw [hcs]; exact ob.good
  have hbig : ¬ SmallC (cellS (seenA L x)) := by rw [hcs]; exact ob.big
  have hwc : WfC (cellS (seenA L x)) := by rw [hcs]; exact hc _ (List.getElem_mem hk)
  have hmk : oneM L L' d x = (L' ++ [⟨L[k].cell, L[k].parts.map (wherM d), sizesA L' (L[k].parts.map (wherM d))⟩], wordAt L[k].cell (usedA L')) := by
    unfold oneM
    rw [hcs, hps]
    exact makeA_big ob.big _
  have hu2 : usedA L' + costC (cellS (seenA L x)) ≤ 262144 := by rw [hcs]; omega
  have hwf2 := make_wf h.wf hgood hlen hfind
  have hsn := make_seen h.wf hgood hlen hu2
  have hfn := make_find (parts := (partsW L x).map (wherM d)) h.wf hgood hu2
  have hext := makeA_ext L' (cellS (seenA L x)) ((partsW L x).map (wherM d))
  have hmk1 := congrArg Prod.fst hmk
  have hmk2 := congrArg Prod.snd hmk
  simp only at hmk1 hmk2
  have hold : ∀ q, (ptrW q = true → q ∈ d.map Prod.fst) → wherM (d ++ [(x, (oneM L L' d x).2)]) q = wherM d q := fun q hq => by
    unfold wherM
    cases hp : ptrW q with
    | false => rfl
    | true =>
      rw [if_pos rfl, if_pos rfl]
      exact look_old d _ q (hq hp)
  have hxw : wherM (d ++ [(x, (oneM L L' d x).2)]) x = (oneM L L' d x).2 := by
    unfold wherM
    rw [if_pos pt]
    exact look_new d x _ hnk
  have hmapq : ∀ qs : List Int, (∀ q ∈ qs, ptrW q = true → q ∈ d.map Prod.fst) → qs.map (wherM (d ++ [(x, (oneM L L' d x).2)])) = qs.map (wherM d) := fun qs hq => List.map_congr_left fun q hm => hold q (hq q hm)
  refine ⟨⟨?_, hwf2, ?_, ?_, ?_, ?_⟩, hlen, hfind, hgood, hwc, hbig, by rw [hcs]; exact hsub, hnk⟩
  · rw [List.map_append, h.keys, List.take_succ_eq_append_getElem hkw, List.filter_append, ex]
    simp [hn]
  · rw [hmk1, wordsA_snoc, h.words, List.map_append, Nat.zero_add]
    rw [hmk2]
    rfl
  · rw [hmk1, usedA_snoc, List.map_append, h.used]
    show _ = costsW L (d.map Prod.fst ++ [x])
    rw [costsW_snoc, hcx]
  · intro o ho
    rw [hmk1] at ho
    rcases List.mem_append.1 ho with ho | ho
    · exact h.cells o ho
    · rw [List.mem_singleton.1 ho]
      show WfC L[k].cell
      exact hc _ (List.getElem_mem hk)
  · intro y c ps hy hky hs
    by_cases hyx : y = x
    · subst hyx
      rw [s1] at hs
      cases hs
      rw [hxw, hmapq _ (fun q hq => hpk q (by rw [hps]; exact hq))]
      refine ⟨?_, ?_, hfn⟩
      · have := hsn
        rw [hcs, hps] at this
        unfold oneM
        rw [hcs, hps]
        exact this
      · rw [hmk2, kd]
        have := cost_pos ob.good ob.big
        exact kdW_wordAt (by omega)
    · have hky' : ptrW y = true → y ∈ d.map Prod.fst := fun hp => by
        have := hky hp
        rw [List.map_append] at this
        rcases List.mem_append.1 this with h1 | h1
        · exact h1
        · exact absurd (List.mem_singleton.1 h1) hyx
      obtain ⟨a1, a2, a3⟩ := h.seen y c ps hy hky' hs
      have hqs : ∀ q ∈ ps, ptrW q = true → q ∈ d.map Prod.fst := fun q hq hqp => by
        cases hpy : ptrW y with
        | false =>
          rw [(seen_flat hy hpy).1] at hs
          cases hs
          cases hq
        | true =>
          have hm := (key_in h y).1 (hky' hpy)
          obtain ⟨j, hj⟩ := List.mem_iff_getElem?.1 hm.1
          have hjk : j < k := by
            have := (List.getElem?_eq_some_iff.1 hj).1
            rw [List.length_take] at this
            omega
          rw [List.getElem?_take_of_lt hjk] at hj
          have hqy : q ∈ partsW L y := by unfold partsW; rw [hs]; exact hq
          refine (key_in h q).2 ⟨?_, hR.parts y hm.2 q hqy hqp⟩
          have he := part_early hw hu hj hqy hqp
          have e2 : (wordsA 0 L).take j <+: (wordsA 0 L).take k := List.take_prefix_take_left (by omega)
          exact e2.subset he
      rw [hold y hky', hmapq ps hqs]
      exact ⟨hext.seen a1, a2, a3.ext hext⟩
end Go.Proofs.YthgnihckeckaiaaDoor.Tm
