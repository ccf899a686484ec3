/- What Collect makes stands for the same: plain lists. -/
import Derived.Test.YthgnihckeckaiaaDoorSwC
namespace Go.Proofs.YthgnihckeckaiaaDoor.Tm
set_option linter.unusedVariables false
set_option linter.unusedSimpArgs false

/-- A map of words that keeps what they stand for. -/
structure HomW (L L' : List ObjA) (R : List Int) (f : Int → Int) : Prop where
  met : MetOk L R
  parts : ∀ x ∈ R, ∀ p ∈ partsW L x, ptrW p = true → p ∈ R
  seen : ∀ x c ps, FindOk L x → (ptrW x = true → x ∈ R) → seenA L x = some (c, ps) → seenA L' (f x) = some (c, ps.map f) ∧ kdW (f x) = kdW x ∧ FindOk L' (f x)
  flat : ∀ x, ptrW x = false → f x = x
  inj : ∀ x ∈ R, ∀ y ∈ R, f x = f y → x = y
structure ColOk (L : List ObjA) (R : List Int) (L' : List ObjA) (d : List (Int × Int)) : Prop where
  wf : WfA L'
  words : wordsA 0 L' = d.map Prod.snd
  used : usedA L' = costsW L R
  len : L'.length = R.length
  cells : ∀ o ∈ L', WfC o.cell
  keys : ∀ x, x ∈ d.map Prod.fst ↔ x ∈ R
  hom : HomW L L' R (wherM d)
theorem col_inv {L : List ObjA} (hw : WfA L) (hu : usedA L ≤ 262144) (hc : ∀ o ∈ L, WfC o.cell) {R : List Int} (hR : RchOk L [] R) (hcR : costsW L R ≤ 262144) : ∀ k, k ≤ L.length → ColInv L R k (colF L R ((wordsA 0 L).take k)).1 (colF L R ((wordsA 0 L).take k)).2
  | 0, _ => by
    rw [List.take_zero]
    exact ColInv.start L R
  | k + 1, hk => by
    have ih := col_inv hw hu hc hR hcR k (by omega)
    have hkw : k < (wordsA 0 L).length := by rw [wordsA_len]; omega
    have hx : (wordsA 0 L)[k]? = some (wordsA 0 L)[k] := List.getElem?_eq_getElem hkw
    rw [List.take_succ_eq_append_getElem hkw, colF_snoc]
    unfold colStep
    by_cases hn : (wordsA 0 L)[k] ∈ R
    · rw [if_pos hn]
      exact (ih.add hw hu hc hR hcR hx hn).1
    · rw [if_neg hn]
      exact ih.skip hx hn
theorem RchOk.weak {L : List ObjA} {roots R : List Int} (h : RchOk L roots R) : RchOk L [] R := ⟨h.met, fun x hx => (by cases hx), h.parts⟩
theorem col_ok {L : List ObjA} (hw : WfA L) (hu : usedA L ≤ 262144) (hc : ∀ o ∈ L, WfC o.cell) {R : List Int} (hR : RchOk L [] R) (hcR : costsW L R ≤ 262144) : ColOk L R (colF L R (wordsA 0 L)).1 (colF L R (wordsA 0 L)).2 := by
  have h := col_inv hw hu hc hR hcR L.length (Nat.le_refl _)
  rw [List.take_of_length_le (by rw [wordsA_len]; exact Nat.le_refl _)] at h
  obtain ⟨L', hL⟩ : ∃ L', (colF L R (wordsA 0 L)).1 = L' := ⟨_, rfl⟩
  obtain ⟨d, hd⟩ : ∃ d, (colF L R (wordsA 0 L)).2 = d := ⟨_, rfl⟩
  rw [hL, hd] at h ⊢
  have hkeys : ∀ x, x ∈ d.map Prod.fst ↔ x ∈ R := fun x => by
    rw [key_in h]
    refine ⟨fun q => q.2, fun q => ⟨?_, q⟩⟩
    obtain ⟨fo, pt⟩ := hR.met.ok x q
    obtain ⟨j, hj, _, wj⟩ := ptr_find fo pt
    rw [List.take_of_length_le (by rw [wordsA_len]; exact Nat.le_refl _)]
    exact List.mem_of_getElem? wj
  have hnd := keys_nodup hw hu h
  have hcost : costsW L (d.map Prod.fst) = costsW L R := Nat.le_antisymm (cost_sub _ _ hnd fun x q => (hkeys x).1 q) (cost_sub _ _ hR.met.nodup fun x q => (hkeys x).2 q)
  have hlen : (d.map Prod.fst).length = R.length := Nat.le_antisymm (nodup_sub _ _ hnd fun x q => (hkeys x).1 q) (nodup_sub _ _ hR.met.nodup fun x q => (hkeys x).2 q)
  have hl2 : L'.length = d.length := by
    have := congrArg List.length h.words
    rw [wordsA_len, List.length_map] at this
    exact this
  have hused : usedA L' = costsW L R := by rw [h.used, hcost]
  refine ⟨h.wf, h.words, hused, by rw [hl2, ← hlen, List.length_map], h.cells, hkeys, hR.met, hR.parts, fun x c ps fx px hs => h.seen x c ps fx (fun hp => (hkeys x).2 (px hp)) hs, fun x hp => ?_, fun x hx y hy he => ?_⟩
  · unfold wherM
    rw [if_neg (by rw [hp]; simp)]
  · unfold wherM at he
    rw [if_pos (hR.met.ok x hx).2, if_pos (hR.met.ok y hy).2] at he
    obtain ⟨i, hi, i1, i2⟩ := look_mem d x ((hkeys x).2 hx)
    obtain ⟨j, hj, j1, j2⟩ := look_mem d y ((hkeys y).2 hy)
    have hij : i = j := by
      by_cases e : i = j
      · exact e
      · exfalso
        refine words_apart (x := d[i].2) (y := d[j].2) h.wf (by rw [hused]; exact hcR) (by omega) (by omega) e ?_ ?_ (by rw [← i2, ← j2]; exact he)
        · rw [h.words, List.getElem?_map, List.getElem?_eq_getElem hi]; rfl
        · rw [h.words, List.getElem?_map, List.getElem?_eq_getElem hj]; rfl
    subst hij
    rw [← i1, ← j1]
/-- Terms are the same. -/
theorem HomW.tells {L L' : List ObjA} {R : List Int} {f : Int → Int} (hw : WfA L) (H : HomW L L' R f) {ws : List Int} {t : List CellD} (h : Tells L ws t) : (∀ x ∈ ws, FindOk L x ∧ (ptrW x = true → x ∈ R)) → Tells L' (ws.map f) t := by
  induction h with
  | nil => exact fun _ => .nil
  | @cons w ws c ps t hs ht ih =>
    intro hx
    obtain ⟨fw, pw⟩ := hx w (by simp)
    rw [List.map_cons]
    refine .cons (H.seen w c ps fw pw hs).1 ?_
    rw [← List.map_append]
    refine ih fun y hy => ?_
    rcases List.mem_append.1 hy with hy | hy
    · have hyp : y ∈ partsW L w := by unfold partsW; rw [hs]; exact hy
      refine ⟨(parts_rank hw hyp).1, fun hp => ?_⟩
      cases hpw : ptrW w with
      | true => exact H.parts w (pw hpw) y hyp hp
      | false =>
        rw [(seen_flat fw hpw).1] at hs
        cases hs
        cases hy
    · exact hx y (by simp [hy])
theorem HomW.ptr {L L' : List ObjA} {R : List Int} {f : Int → Int} (H : HomW L L' R f) {x : Int} (hx : FindOk L x) (hp : ptrW x = true → x ∈ R) : ptrW (f x) = ptrW x ∧ FindOk L' (f x) ∧ partsW L' (f x) = (partsW L x).map f ∧ costW L' (f x) = costW L x := by
  have hs : ∃ c ps, seenA L x = some (c, ps) := by
    have := seen_is (L := L) x
    rw [hx.1] at this
    obtain ⟨r, hr⟩ := Option.isSome_iff_exists.1 this
    exact ⟨r.1, r.2, hr⟩
  obtain ⟨c, ps, hs⟩ := hs
  obtain ⟨a, b, e⟩ := H.seen x c ps hx hp hs
  refine ⟨by unfold ptrW; rw [b], e, ?_, ?_⟩
  · unfold partsW; rw [a, hs]
  · unfold costW; rw [a, hs]
/-- What is reached, in order, is the same. -/
theorem HomW.run {L L' : List ObjA} {R : List Int} {f : Int → Int} (hw : WfA L) (hw' : WfA L') (H : HomW L L' R f) : ∀ (n : Nat) (m st : List Int), st.length + 300 * (L.length - m.length) < n → PreNow L m st → (∀ x ∈ m, x ∈ R) → (∀ x ∈ st, ptrW x = true → x ∈ R) →
    (st.map f).foldl (preW L') (m.map f) = (st.foldl (preW L) m).map f ∧ ∀ x ∈ st.foldl (preW L) m, x ∈ R
  | 0, _, _, h, _, _, _ => absurd h (Nat.not_lt_zero _)
  | n + 1, m, [], _, h, hm, _ => ⟨rfl, hm⟩
  | n + 1, m, x :: st, hn, h, hm, hst => by
    have fx := h.2.1 x (by simp)
    have px := hst x (by simp)
    obtain ⟨e1, e2, e3, _⟩ := H.ptr fx px
    have hmem : ptrW x = true → (f x ∈ m.map f ↔ x ∈ m) := fun hp => by
      refine ⟨fun q => ?_, fun q => List.mem_map.2 ⟨x, q, rfl⟩⟩
      obtain ⟨y, hy, ey⟩ := List.mem_map.1 q
      rw [← H.inj y (hm y hy) x (px hp) ey]
      exact hy
    by_cases hs : ptrW x = false ∨ x ∈ m
    · have hs' : ptrW (f x) = false ∨ f x ∈ m.map f := by
        rw [e1]
        rcases hs with hs | hs
        · exact .inl hs
        · exact .inr (List.mem_map.2 ⟨x, hs, rfl⟩)
      rw [List.map_cons, pre_pop hw' _ hs', pre_pop hw st hs]
      exact HomW.run hw hw' H n m st (by simp at hn; omega) (h.pop hs) hm (fun y hy => hst y (by simp [hy]))
    · have hp : ptrW x = true := by cases hp : ptrW x <;> simp_all
      have hx : x ∉ m := fun q => hs (.inr q)
      have hk := h.push hw hp hx
      have hl := hk.1.len
      have hpl := parts_len hw x
      rw [List.length_append, List.length_singleton] at hl
      rw [List.map_cons, pre_push hw' _ (by rw [e1]; exact hp) (fun q => hx ((hmem hp).1 q)), pre_push hw st hp hx, e3, ← List.map_append]
      have em : m.map f ++ [f x] = (m ++ [x]).map f := by simp
      rw [em]
      refine HomW.run hw hw' H n (m ++ [x]) (partsW L x ++ st) (by rw [List.length_append, List.length_append, List.length_singleton]; rw [List.length_cons] at hn; omega) hk (fun y hy => ?_) (fun y hy hq => ?_)
      · rcases List.mem_append.1 hy with hy | hy
        · exact hm y hy
        · rw [List.mem_singleton.1 hy]; exact px hp
      · rcases List.mem_append.1 hy with hy | hy
        · exact H.parts x (px hp) y hy hq
        · exact hst y (by simp [hy]) hq
theorem HomW.rch {L L' : List ObjA} {R roots : List Int} {f : Int → Int} (hw : WfA L) (hw' : WfA L') (H : HomW L L' R f) (hr : ∀ x ∈ roots, FindOk L x ∧ (ptrW x = true → x ∈ R)) : rchW L' (roots.map f) = (rchW L roots).map f ∧ ∀ x ∈ rchW L roots, x ∈ R := by
  obtain ⟨a, b⟩ := HomW.run hw hw' H _ [] roots (Nat.lt_succ_self _) ⟨MetOk.nil L, fun x hx => (hr x hx).1, fun x hx => (by cases hx)⟩ (fun x hx => (by cases hx)) (fun x hx => (hr x hx).2)
  exact ⟨a, b⟩
theorem HomW.costs {L L' : List ObjA} {R : List Int} {f : Int → Int} (H : HomW L L' R f) : ∀ m : List Int, (∀ x ∈ m, x ∈ R) → costsW L' (m.map f) = costsW L m
  | [], _ => rfl
  | x :: m, h => by
    have h1 := HomW.costs H m (fun y hy => h y (by simp [hy]))
    have hx := h x (by simp)
    obtain ⟨_, _, _, e⟩ := H.ptr (H.met.ok x hx).1 (fun _ => hx)
    simp only [costsW, List.map_cons, List.sum_cons] at h1 ⊢
    rw [h1, e]
/-- What is reached lies in each closed set. -/
theorem rch_min {L : List ObjA} (hw : WfA L) {S : List Int} (hS : ∀ x ∈ S, ∀ p ∈ partsW L x, ptrW p = true → p ∈ S) : ∀ (n : Nat) (m st : List Int), st.length + 300 * (L.length - m.length) < n → PreNow L m st → (∀ x ∈ m, x ∈ S) → (∀ x ∈ st, ptrW x = true → x ∈ S) → ∀ x ∈ st.foldl (preW L) m, x ∈ S
  | 0, _, _, h, _, _, _ => absurd h (Nat.not_lt_zero _)
  | n + 1, m, [], _, h, hm, _ => hm
  | n + 1, m, x :: st, hn, h, hm, hst => by
    by_cases hs : ptrW x = false ∨ x ∈ m
    · rw [pre_pop hw st hs]
      exact rch_min hw hS n m st (by simp at hn; omega) (h.pop hs) hm (fun y hy => hst y (by simp [hy]))
    · have hp : ptrW x = true := by cases hp : ptrW x <;> simp_all
      have hx : x ∉ m := fun q => hs (.inr q)
      have hk := h.push hw hp hx
      have hl := hk.1.len
      have hpl := parts_len hw x
      rw [List.length_append, List.length_singleton] at hl
      rw [pre_push hw st hp hx]
      refine rch_min hw hS n (m ++ [x]) (partsW L x ++ st) (by rw [List.length_append, List.length_append, List.length_singleton]; rw [List.length_cons] at hn; omega) hk (fun y hy => ?_) (fun y hy hq => ?_)
      · rcases List.mem_append.1 hy with hy | hy
        · exact hm y hy
        · rw [List.mem_singleton.1 hy]; exact hst x (by simp) hp
      · rcases List.mem_append.1 hy with hy | hy
        · exact hS x (hst x (by simp) hp) y hy hq
        · exact hst y (by simp [hy]) hq
/-- The same roots, in any order and any number, reach the same. -/
theorem rch_same {L : List ObjA} (hw : WfA L) {a b : List Int} (ha : ∀ x ∈ a, FindOk L x) (hb : ∀ x ∈ b, FindOk L x) (hab : ∀ x, x ∈ a ↔ x ∈ b) : costsW L (rchW L a) = costsW L (rchW L b) := by
  have A := rch_ok hw ha
  have B := rch_ok hw hb
  refine Nat.le_antisymm (cost_sub _ _ A.met.nodup ?_) (cost_sub _ _ B.met.nodup ?_)
  · exact rch_min hw B.parts _ [] a (Nat.lt_succ_self _) ⟨MetOk.nil L, ha, fun x hx => (by cases hx)⟩ (fun x hx => (by cases hx)) (fun x hx hp => B.roots x ((hab x).1 hx) hp)
  · exact rch_min hw A.parts _ [] b (Nat.lt_succ_self _) ⟨MetOk.nil L, hb, fun x hx => (by cases hx)⟩ (fun x hx => (by cases hx)) (fun x hx hp => A.roots x ((hab x).2 hx) hp)
/-- What is reached takes no more than the arena. -/
theorem rch_used {L : List ObjA} (hw : WfA L) (hu : usedA L ≤ 262144) {R : List Int} (hR : MetOk L R) : costsW L R ≤ usedA L := by
  have h1 : costsW L R ≤ costsW L (wordsA 0 L) := cost_sub _ _ hR.nodup fun x hx => by
    obtain ⟨fo, pt⟩ := hR.ok x hx
    obtain ⟨j, _, _, wj⟩ := ptr_find fo pt
    exact List.mem_of_getElem? wj
  have h2 : costsW L (wordsA 0 L) = usedA L := by
    unfold costsW usedA
    rw [costs_words hw hu]
  omega
end Go.Proofs.YthgnihckeckaiaaDoor.Tm
