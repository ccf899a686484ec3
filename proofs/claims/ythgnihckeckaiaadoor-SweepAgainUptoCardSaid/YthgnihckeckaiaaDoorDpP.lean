/- The objects that words reach: plain lists, and the walk as steps on a stack. -/
import Derived.Test.YthgnihckeckaiaaDoorArG
namespace Go.Proofs.YthgnihckeckaiaaDoor.Tm
set_option linter.unusedVariables false
set_option linter.unusedSimpArgs false

/-- Does a word name an object? -/
def ptrW (x : Int) : Bool := kdW x == 3 || kdW x == 4
/-- The words that an object holds. -/
def partsW (L : List ObjA) (x : Int) : List Int := match seenA L x with
  | some (_, ps) => ps
  | none => []
/-- How far up an object stands; 0: none. -/
def rkW (L : List ObjA) (x : Int) : Nat := match findA L x with
  | some k => (k + 1).toNat
  | none => 0
theorem rkW_le (L : List ObjA) (x : Int) : rkW L x ≤ L.length := by
  unfold rkW
  split
  · rename_i k hk
    have := findA_lt hk
    omega
  · omega
theorem rk_find {L : List ObjA} {x k : Int} (h : findA L x = some k) : rkW L x = (k + 1).toNat := by unfold rkW; rw [h]
theorem parts_rank {L : List ObjA} (hw : WfA L) {x p : Int} (hp : p ∈ partsW L x) : FindOk L p ∧ rkW L p < rkW L x := by
  unfold partsW at hp
  cases hs : seenA L x with
  | none => rw [hs] at hp; cases hp
  | some r =>
    obtain ⟨c, ps⟩ := r
    rw [hs] at hp
    refine ⟨seen_parts hw hs p hp, ?_⟩
    rcases seen_obj hs with ⟨_, _, rfl⟩ | ⟨k, hk, hf, _, rfl⟩
    · cases hp
    · obtain ⟨j, hj⟩ := Option.isSome_iff_exists.1 ((hw k hk).parts p hp).1
      have hjl := findA_lt hj
      rw [List.length_take] at hjl
      rw [rk_find ((Ext.take L k).find hj), rk_find hf]
      omega
/-- Behind the others, but once. -/
def finW (m : List Int) (x : Int) : List Int := if x ∈ m then m else m ++ [x]
def visF (L : List ObjA) : Nat → List Int → Int → List Int
  | 0, m, _ => m
  | f + 1, m, x => if ptrW x = false ∨ x ∈ m then m else finW ((partsW L x).foldl (visF L f) m) x
theorem foldl_same {f g : List Int → Int → List Int} : ∀ (l : List Int) (m : List Int), (∀ p ∈ l, ∀ m, f m p = g m p) → l.foldl f m = l.foldl g m
  | [], _, _ => rfl
  | p :: l, m, h => by
    rw [List.foldl_cons, List.foldl_cons, h p (by simp)]
    exact foldl_same l _ (fun q hq => h q (by simp [hq]))
theorem visF_fuel {L : List ObjA} (hw : WfA L) : ∀ (n f g : Nat) (x : Int) (m : List Int), rkW L x < n → n ≤ f → n ≤ g → visF L f m x = visF L g m x
  | 0, _, _, _, _, h, _, _ => absurd h (Nat.not_lt_zero _)
  | n + 1, f, g, x, m, h, hf, hg => by
    obtain ⟨f, rfl⟩ : ∃ k, f = k + 1 := ⟨f - 1, by omega⟩
    obtain ⟨g, rfl⟩ : ∃ k, g = k + 1 := ⟨g - 1, by omega⟩
    unfold visF
    rw [foldl_same (partsW L x) m (fun p hp m => visF_fuel hw n f g p m (by have := (parts_rank hw hp).2; omega) (by omega) (by omega))]
/-- The objects that a word reaches, behind those met: what is held ahead of what holds it. -/
def visW (L : List ObjA) (m : List Int) (x : Int) : List Int := visF L (L.length + 2) m x
theorem visW_eq {L : List ObjA} (hw : WfA L) (m : List Int) (x : Int) : visW L m x = if ptrW x = false ∨ x ∈ m then m else finW ((partsW L x).foldl (visW L) m) x := by
  unfold visW
  rw [visF]
  rw [foldl_same (partsW L x) m (fun p _ m => visF_fuel hw (L.length + 1) (L.length + 1) (L.length + 2) p m (by have := rkW_le L p; omega) (by omega) (by omega))]
theorem vis_skip {L : List ObjA} (hw : WfA L) {m : List Int} {x : Int} (h : ptrW x = false ∨ x ∈ m) : visW L m x = m := by rw [visW_eq hw, if_pos h]
theorem fin_prefix (m : List Int) (x : Int) : m <+: finW m x := by
  unfold finW
  split
  · exact List.prefix_refl m
  · exact List.prefix_append m [x]
theorem fold_prefix {f : List Int → Int → List Int} (h : ∀ m x, m <+: f m x) : ∀ (l : List Int) (m : List Int), m <+: l.foldl f m
  | [], m => List.prefix_refl m
  | p :: l, m => (h m p).trans (fold_prefix h l _)
theorem visF_prefix (L : List ObjA) : ∀ (f : Nat) (m : List Int) (x : Int), m <+: visF L f m x
  | 0, m, _ => List.prefix_refl m
  | f + 1, m, x => by
    unfold visF
    split
    · exact List.prefix_refl m
    · exact (fold_prefix (visF_prefix L f) _ m).trans (fin_prefix _ x)
theorem vis_prefix (L : List ObjA) (m : List Int) (x : Int) : m <+: visW L m x := visF_prefix L _ m x
/-- What is met: objects, each once. -/
structure MetOk (L : List ObjA) (m : List Int) : Prop where
  nodup : m.Nodup
  ok : ∀ x ∈ m, FindOk L x ∧ ptrW x = true
theorem MetOk.fin {L : List ObjA} {m : List Int} {x : Int} (h : MetOk L m) (hx : FindOk L x) (hp : ptrW x = true) : MetOk L (finW m x) := by
  unfold finW
  split
  · exact h
  · rename_i hn
    refine ⟨?_, fun y hy => ?_⟩
    · rw [List.nodup_append]
      exact ⟨h.nodup, by simp, fun a ha b hb e => by rw [List.mem_singleton.1 hb] at e; subst e; exact hn ha⟩
    · rcases List.mem_append.1 hy with hy | hy
      · exact h.ok y hy
      · rw [List.mem_singleton.1 hy]; exact ⟨hx, hp⟩
/-- What a visit adds stands no higher. -/
theorem visF_spec {L : List ObjA} (hw : WfA L) : ∀ (f : Nat) (m : List Int) (x : Int), MetOk L m → FindOk L x → MetOk L (visF L f m x) ∧ ∀ y ∈ visF L f m x, y ∈ m ∨ rkW L y ≤ rkW L x
  | 0, m, _, h, _ => ⟨h, fun y hy => .inl hy⟩
  | f + 1, m, x, h, hx => by
    unfold visF
    split
    · exact ⟨h, fun y hy => .inl hy⟩
    · rename_i hn
      have key : ∀ (l : List Int) (m : List Int), MetOk L m → (∀ p ∈ l, FindOk L p ∧ rkW L p < rkW L x) → MetOk L (l.foldl (visF L f) m) ∧ ∀ y ∈ l.foldl (visF L f) m, y ∈ m ∨ rkW L y ≤ rkW L x := by
        intro l
        induction l with
        | nil => exact fun m h _ => ⟨h, fun y hy => .inl hy⟩
        | cons p l ih =>
          intro m h hp
          obtain ⟨a1, a2⟩ := visF_spec hw f m p h (hp p (by simp)).1
          obtain ⟨b1, b2⟩ := ih _ a1 (fun q hq => hp q (by simp [hq]))
          refine ⟨b1, fun y hy => ?_⟩
          rcases b2 y hy with h1 | h1
          · rcases a2 y h1 with h2 | h2
            · exact .inl h2
            · exact .inr (by have := (hp p (by simp)).2; omega)
          · exact .inr h1
      obtain ⟨k1, k2⟩ := key (partsW L x) m h (fun p hp => parts_rank hw hp)
      refine ⟨k1.fin hx (by cases hp : ptrW x <;> simp_all), fun y hy => ?_⟩
      unfold finW at hy
      split at hy
      · exact k2 y hy
      · rcases List.mem_append.1 hy with h1 | h1
        · exact k2 y h1
        · rw [List.mem_singleton.1 h1]; exact .inr (Nat.le_refl _)
theorem vis_ok {L : List ObjA} (hw : WfA L) {m : List Int} {x : Int} (h : MetOk L m) (hx : FindOk L x) : MetOk L (visW L m x) := (visF_spec hw _ m x h hx).1
theorem fold_ok {L : List ObjA} (hw : WfA L) : ∀ (l : List Int) (m : List Int), MetOk L m → (∀ p ∈ l, FindOk L p) → MetOk L (l.foldl (visW L) m)
  | [], _, h, _ => h
  | p :: l, m, h, hp => fold_ok hw l _ (vis_ok hw h (hp p (by simp))) (fun q hq => hp q (by simp [hq]))
theorem fold_rank {L : List ObjA} (hw : WfA L) {n : Nat} : ∀ (l : List Int) (m : List Int), MetOk L m → (∀ p ∈ l, FindOk L p ∧ rkW L p < n) → ∀ y ∈ l.foldl (visW L) m, y ∈ m ∨ rkW L y < n
  | [], _, _, _ => fun y hy => .inl hy
  | p :: l, m, h, hp => fun y hy => by
    obtain ⟨a1, a2⟩ := visF_spec hw (L.length + 2) m p h (hp p (by simp)).1
    rcases fold_rank hw l _ a1 (fun q hq => hp q (by simp [hq])) y hy with h1 | h1
    · rcases a2 y h1 with h2 | h2
      · exact .inl h2
      · exact .inr (by have := (hp p (by simp)).2; omega)
    · exact .inr h1
/-- A visit as the document has it. -/
theorem vis_new {L : List ObjA} (hw : WfA L) {m : List Int} {x : Int} (h : MetOk L m) (hp : ptrW x = true) (hn : x ∉ m) : x ∉ (partsW L x).foldl (visW L) m ∧ visW L m x = (partsW L x).foldl (visW L) m ++ [x] := by
  have h1 : x ∉ (partsW L x).foldl (visW L) m := fun hx => by
    rcases fold_rank hw (partsW L x) m h (fun p hp => parts_rank hw hp) x hx with h1 | h1
    · exact hn h1
    · omega
  refine ⟨h1, ?_⟩
  rw [visW_eq hw, if_neg (by simp [hp, hn])]
  unfold finW
  rw [if_neg h1]
theorem nodup_sub : ∀ (a b : List Int), a.Nodup → (∀ x ∈ a, x ∈ b) → a.length ≤ b.length
  | [], _, _, _ => Nat.zero_le _
  | x :: a, b, h, hs => by
    obtain ⟨h1, h2⟩ := List.nodup_cons.1 h
    have hx := hs x (by simp)
    have := nodup_sub a (b.erase x) h2 (fun y hy => (List.mem_erase_of_ne (fun e => h1 (by rw [← e]; exact hy))).2 (hs y (by simp [hy])))
    have e := List.length_erase_of_mem hx
    have : 0 < b.length := List.length_pos_of_mem hx
    simp only [List.length_cons]
    omega
theorem ptr_find {L : List ObjA} {x : Int} (h : FindOk L x) (hp : ptrW x = true) : ∃ k : Nat, k < L.length ∧ findA L x = some (k : Int) ∧ (wordsA 0 L)[k]? = some x := by
  obtain ⟨k, hk⟩ := Option.isSome_iff_exists.1 h.1
  have hk2 : kdW x = 3 ∨ kdW x = 4 := by simpa [ptrW] using hp
  have hl := findA_lt hk
  unfold findA at hk
  rw [if_neg (by omega), if_pos hk2] at hk
  split at hk
  · rename_i j ej
    split at hk
    · rename_i ew
      cases hk
      exact ⟨j, by omega, by unfold findA; rw [if_neg (by omega), if_pos hk2, ej]; simp only; rw [if_pos ew], ew⟩
    · cases hk
  · cases hk
theorem MetOk.len {L : List ObjA} {m : List Int} (h : MetOk L m) : m.length ≤ L.length := by
  rw [← wordsA_len 0 L]
  refine nodup_sub m _ h.nodup fun x hx => ?_
  obtain ⟨k, hk, _, hw⟩ := ptr_find (h.ok x hx).1 (h.ok x hx).2
  exact List.mem_of_getElem? hw

/-! the walk's steps: the stack, what is on top at its end -/
def itemW (L : List ObjA) (m : List Int) (s : Int × Nat) : List Int :=
  if s.2 = 0 then visW L m s.1 else finW (((partsW L s.1).drop s.2).foldl (visW L) m) s.1
def runW (L : List ObjA) : List (Int × Nat) → List Int → List Int
  | [], m => m
  | s :: S, m => runW L S (itemW L m s)
def runB (L : List ObjA) (st : List (Int × Nat)) (m : List Int) : List Int := runW L st.reverse m
theorem runB_snoc (L : List ObjA) (st : List (Int × Nat)) (s : Int × Nat) (m : List Int) : runB L (st ++ [s]) m = runB L st (itemW L m s) := by
  unfold runB
  rw [List.reverse_append]
  rfl
theorem runB_nil (L : List ObjA) (m : List Int) : runB L [] m = m := rfl
theorem item_eq {L : List ObjA} (hw : WfA L) {m : List Int} {x : Int} {k : Nat} (h : k = 0 → ptrW x = true ∧ x ∉ m) : itemW L m (x, k) = finW (((partsW L x).drop k).foldl (visW L) m) x := by
  unfold itemW
  simp only
  by_cases h0 : k = 0
  · subst h0
    obtain ⟨h1, h2⟩ := h rfl
    rw [if_pos rfl, visW_eq hw, if_neg (by simp [h1, h2]), List.drop_zero]
  · rw [if_neg h0]
theorem run_pop {L : List ObjA} (hw : WfA L) (st : List (Int × Nat)) {m : List Int} {x : Int} (h : ptrW x = false ∨ x ∈ m) : runB L (st ++ [(x, 0)]) m = runB L st m := by
  rw [runB_snoc]
  unfold itemW
  rw [if_pos rfl, vis_skip hw h]
theorem run_pass {L : List ObjA} (hw : WfA L) (st : List (Int × Nat)) {m : List Int} {x : Int} {k : Nat} (h : k = 0 → ptrW x = true ∧ x ∉ m) (hk : k < (partsW L x).length) (hp : ptrW (partsW L x)[k] = false ∨ (partsW L x)[k] ∈ m) :
    runB L (st ++ [(x, k + 1)]) m = runB L (st ++ [(x, k)]) m := by
  rw [runB_snoc, runB_snoc, item_eq hw h, item_eq hw (fun e => by omega), List.drop_eq_getElem_cons hk, List.foldl_cons, vis_skip hw hp]
theorem run_push {L : List ObjA} (hw : WfA L) (st : List (Int × Nat)) {m : List Int} {x : Int} {k : Nat} (h : k = 0 → ptrW x = true ∧ x ∉ m) (hk : k < (partsW L x).length) :
    runB L ((st ++ [(x, k + 1)]) ++ [((partsW L x)[k], 0)]) m = runB L (st ++ [(x, k)]) m := by
  rw [runB_snoc, runB_snoc, runB_snoc, item_eq hw h, item_eq hw (fun e => by omega), List.drop_eq_getElem_cons hk, List.foldl_cons]
  unfold itemW
  rw [if_pos rfl]
theorem run_done {L : List ObjA} (hw : WfA L) (st : List (Int × Nat)) {m : List Int} {x : Int} {k : Nat} (h : k = 0 → ptrW x = true ∧ x ∉ m) (hk : (partsW L x).length ≤ k) :
    runB L st (finW m x) = runB L (st ++ [(x, k)]) m := by
  rw [runB_snoc, item_eq hw h, List.drop_eq_nil_of_le hk]
  rfl
theorem item_prefix (L : List ObjA) (m : List Int) (s : Int × Nat) : m <+: itemW L m s := by
  unfold itemW
  split
  · exact vis_prefix L m _
  · exact (fold_prefix (vis_prefix L) _ m).trans (fin_prefix _ _)
theorem runW_prefix (L : List ObjA) : ∀ (S : List (Int × Nat)) (m : List Int), m <+: runW L S m
  | [], m => List.prefix_refl m
  | s :: S, m => (item_prefix L m s).trans (runW_prefix L S _)
theorem run_prefix (L : List ObjA) (st : List (Int × Nat)) (m : List Int) : m <+: runB L st m := runW_prefix L _ m
/-- What holds of the stack: below an item stand those that hold it; all but the first are objects that are not met. -/
structure StOk (L : List ObjA) (m : List Int) (st : List (Int × Nat)) : Prop where
  ok : ∀ s ∈ st, FindOk L s.1
  nxt : ∀ s ∈ st, s.2 ≤ (partsW L s.1).length
  ord : st.Pairwise fun a b => rkW L b.1 < rkW L a.1
  new : ∀ i (h : i < st.length), i ≠ 0 ∨ st[i].2 ≠ 0 → ptrW st[i].1 = true ∧ st[i].1 ∉ m
theorem pw_len {L : List ObjA} : ∀ (st : List (Int × Nat)) (n : Nat), (st.Pairwise fun a b => rkW L b.1 < rkW L a.1) → (∀ s ∈ st, rkW L s.1 < n) → st.length ≤ n
  | [], _, _, _ => Nat.zero_le _
  | s :: st, n, h, hs => by
    obtain ⟨h1, h2⟩ := List.pairwise_cons.1 h
    have := pw_len st (rkW L s.1) h2 (fun t ht => h1 t ht)
    have := hs s (by simp)
    simp only [List.length_cons]
    omega
theorem StOk.len {L : List ObjA} {m : List Int} {st : List (Int × Nat)} (h : StOk L m st) : st.length ≤ L.length + 1 :=
  pw_len st (L.length + 1) h.ord (fun s _ => by have := rkW_le L s.1; omega)
theorem StOk.one {L : List ObjA} {m : List Int} {x : Int} (h : FindOk L x) : StOk L m [(x, 0)] :=
  ⟨fun s hs => by rw [List.mem_singleton.1 hs]; exact h, fun s hs => by rw [List.mem_singleton.1 hs]; exact Nat.zero_le _, List.pairwise_singleton _ _, fun i hi hn => by
    have : i = 0 := by simpa using hi
    subst this
    simp at hn⟩
theorem StOk.pop {L : List ObjA} {m : List Int} {st : List (Int × Nat)} {s : Int × Nat} (h : StOk L m (st ++ [s])) : StOk L m st :=
  ⟨fun t ht => h.ok t (by simp [ht]), fun t ht => h.nxt t (by simp [ht]), (List.pairwise_append.1 h.ord).1, fun i hi hn => by
    have := h.new i (by simp; omega)
    rw [List.getElem_append_left hi] at this
    exact this hn⟩
theorem StOk.top {L : List ObjA} {m : List Int} {st : List (Int × Nat)} {x : Int} {k : Nat} (h : StOk L m (st ++ [(x, k)])) : FindOk L x ∧ k ≤ (partsW L x).length ∧ (st ≠ [] ∨ k ≠ 0 → ptrW x = true ∧ x ∉ m) ∧ ∀ s ∈ st, rkW L x < rkW L s.1 := by
  refine ⟨h.ok (x, k) (by simp), h.nxt (x, k) (by simp), fun hn => ?_, fun s hs => (List.pairwise_append.1 h.ord).2.2 s hs (x, k) (by simp)⟩
  have := h.new st.length (by simp)
  rw [List.getElem_append_right (Nat.le_refl _)] at this
  simp only [Nat.sub_self, List.getElem_cons_zero] at this
  refine this ?_
  rcases hn with hn | hn
  · exact .inl (fun e => hn (List.eq_nil_of_length_eq_zero e))
  · exact .inr hn
theorem StOk.next {L : List ObjA} {m : List Int} {st : List (Int × Nat)} {x : Int} {k : Nat} (h : StOk L m (st ++ [(x, k)])) (hx : ptrW x = true ∧ x ∉ m) (hk : k < (partsW L x).length) : StOk L m (st ++ [(x, k + 1)]) := by
  refine ⟨fun s hs => ?_, fun s hs => ?_, ?_, fun i hi hn => ?_⟩
  · rcases List.mem_append.1 hs with hs | hs
    · exact h.ok s (by simp [hs])
    · rw [List.mem_singleton.1 hs]; exact h.ok (x, k) (by simp)
  · rcases List.mem_append.1 hs with hs | hs
    · exact h.nxt s (by simp [hs])
    · rw [List.mem_singleton.1 hs]; exact hk
  · rw [List.pairwise_append]
    refine ⟨(List.pairwise_append.1 h.ord).1, List.pairwise_singleton _ _, fun a ha b hb => ?_⟩
    rw [List.mem_singleton.1 hb]
    exact (List.pairwise_append.1 h.ord).2.2 a ha (x, k) (by simp)
  · by_cases hl : i < st.length
    · rw [List.getElem_append_left hl] at hn ⊢
      have := h.new i (by simp; omega)
      rw [List.getElem_append_left hl] at this
      exact this hn
    · have e : i = st.length := by simp at hi; omega
      subst e
      rw [List.getElem_append_right (Nat.le_refl _)]
      simpa using hx
theorem StOk.push {L : List ObjA} (hw : WfA L) {m : List Int} {st : List (Int × Nat)} {x p : Int} {k : Nat} (h : StOk L m (st ++ [(x, k)])) (hp : p ∈ partsW L x) (hn : ptrW p = true ∧ p ∉ m) : StOk L m (st ++ [(x, k)] ++ [(p, 0)]) := by
  have hr := parts_rank hw hp
  refine ⟨fun s hs => ?_, fun s hs => ?_, ?_, fun i hi hi2 => ?_⟩
  · rcases List.mem_append.1 hs with hs | hs
    · exact h.ok s hs
    · rw [List.mem_singleton.1 hs]; exact hr.1
  · rcases List.mem_append.1 hs with hs | hs
    · exact h.nxt s hs
    · rw [List.mem_singleton.1 hs]; exact Nat.zero_le _
  · rw [List.pairwise_append]
    refine ⟨h.ord, List.pairwise_singleton _ _, fun a ha b hb => ?_⟩
    rw [List.mem_singleton.1 hb]
    rcases List.mem_append.1 ha with ha | ha
    · have := (List.pairwise_append.1 h.ord).2.2 a ha (x, k) (by simp)
      simp only at this ⊢
      omega
    · rw [List.mem_singleton.1 ha]; exact hr.2
  · by_cases hl : i < (st ++ [(x, k)]).length
    · rw [List.getElem_append_left hl] at hi2 ⊢
      exact h.new i hl hi2
    · have e : i = (st ++ [(x, k)]).length := by simp at hi hl ⊢; omega
      subst e
      rw [List.getElem_append_right (Nat.le_refl _)]
      simpa using hn
theorem StOk.met {L : List ObjA} {m : List Int} {st : List (Int × Nat)} {x : Int} {k : Nat} (h : StOk L m (st ++ [(x, k)])) : StOk L (m ++ [x]) st := by
  have hp := h.pop
  refine ⟨hp.ok, hp.nxt, hp.ord, fun i hi hn => ?_⟩
  obtain ⟨a, b⟩ := hp.new i hi hn
  refine ⟨a, fun hm => ?_⟩
  rcases List.mem_append.1 hm with hm | hm
  · exact b hm
  · have e := List.mem_singleton.1 hm
    have := h.top.2.2.2 st[i] (List.getElem_mem hi)
    rw [e] at this
    omega
theorem StOk.grow {L : List ObjA} {m : List Int} {st : List (Int × Nat)} (h : StOk L m []) : True := trivial
end Go.Proofs.YthgnihckeckaiaaDoor.Tm
