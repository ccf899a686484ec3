/- What Put makes, and what a word tells: plain lists. -/
import Derived.Test.YthgnihckeckaiaaDoorArP
namespace Go.Proofs.YthgnihckeckaiaaDoor.Tm
set_option linter.unusedVariables false
set_option linter.unusedSimpArgs false

/-- The cell of a word that every arena has. -/
def cellW (x : Int) : CellD := if x = 2 then ⟨6, 0, ⟨#[]⟩⟩ else ⟨1, valW x, ⟨#[]⟩⟩
/-- What a word tells: its first cell and what it holds. -/
def seenA (l : List ObjA) (x : Int) : Option (CellD × List Int) := match findA l x with
  | some k => if k < 0 then some (cellW x, []) else (l[k.toNat]?).map fun o => (o.cell, o.parts)
  | none => none
def FindOk (l : List ObjA) (x : Int) : Prop := (findA l x).isSome = true ∧ 0 ≤ x ∧ x < 18446744073709551616
def Ext (l l' : List ObjA) : Prop := ∃ m, l' = l ++ m
theorem Ext.refl (l : List ObjA) : Ext l l := ⟨[], by simp⟩
theorem Ext.trans {a b c : List ObjA} (h : Ext a b) (k : Ext b c) : Ext a c := by
  obtain ⟨m, rfl⟩ := h
  obtain ⟨n, rfl⟩ := k
  exact ⟨m ++ n, by simp⟩
theorem findA_ext {w k : Int} : ∀ (m l : List ObjA), findA l w = some k → findA (l ++ m) w = some k
  | [], l, h => by simpa using h
  | o :: m, l, h => by
    have := findA_ext m (l ++ [o]) (findA_snoc o h)
    simpa using this
theorem Ext.find {l l' : List ObjA} {w k : Int} (h : Ext l l') (hf : findA l w = some k) : findA l' w = some k := by
  obtain ⟨m, rfl⟩ := h
  exact findA_ext m l hf
theorem FindOk.ext {l l' : List ObjA} {x : Int} (h : FindOk l x) (e : Ext l l') : FindOk l' x := by
  obtain ⟨k, hk⟩ := Option.isSome_iff_exists.1 h.1
  exact ⟨by rw [e.find hk]; rfl, h.2⟩
theorem Ext.size {l l' : List ObjA} {w k : Int} (h : Ext l l') (hf : findA l w = some k) : sizeA l' w = sizeA l w := by
  have hk := findA_lt hf
  unfold sizeA
  rw [h.find hf, hf]
  simp only
  split
  · rfl
  · obtain ⟨m, rfl⟩ := h
    rw [List.getElem?_append_left (by omega)]
theorem Ext.seen {l l' : List ObjA} {w : Int} {r : CellD × List Int} (h : Ext l l') (hs : seenA l w = some r) : seenA l' w = some r := by
  unfold seenA at hs ⊢
  cases hf : findA l w with
  | none => rw [hf] at hs; cases hs
  | some k =>
    rw [hf] at hs
    rw [h.find hf]
    simp only at hs ⊢
    split
    · rename_i hn; rw [if_pos hn] at hs; exact hs
    · rename_i hn
      rw [if_neg hn] at hs
      obtain ⟨m, rfl⟩ := h
      have := findA_lt hf
      rw [List.getElem?_append_left (by omega)]
      exact hs
theorem makeA_ext (l : List ObjA) (c : CellD) (parts : List Int) : Ext l (makeA l c parts).1 := by
  unfold makeA
  split
  · exact Ext.refl l
  · split
    · exact Ext.refl l
    · exact ⟨[_], rfl⟩
theorem make_used {l : List ObjA} {c : CellD} (he : cellE c = 0) (parts : List Int) : usedA (makeA l c parts).1 = usedA l + costC c := by
  unfold makeA
  split
  · rename_i h; rw [cost_small he (.inl h)]; rfl
  · split
    · rename_i h; rw [cost_small he (.inr h)]; rfl
    · exact usedA_snoc _ _
theorem makeA_big {l : List ObjA} {c : CellD} (hs : ¬ SmallC c) (parts : List Int) : makeA l c parts = (l ++ [⟨c, parts, sizesA l parts⟩], wordAt c (usedA l)) := by
  unfold makeA
  rw [if_neg (fun e => hs (.inl e)), if_neg (fun e => hs (.inr e))]
theorem make_wf {l : List ObjA} {c : CellD} {parts : List Int} (h : WfA l) (he : cellE c = 0) (hk : parts.length = kidsD c) (hp : ∀ p ∈ parts, FindOk l p) : WfA (makeA l c parts).1 := by
  by_cases hs : SmallC c
  · unfold makeA
    rcases hs with hs | hs
    · rw [if_pos hs]; exact h
    · rw [if_neg (by omega), if_pos hs]; exact h
  · rw [makeA_big hs]
    exact h.snoc ⟨he, hs, hk, hp, rfl⟩
theorem find_intW (l : List ObjA) (n : Int) : findA l (intW n) = some (-1) := by unfold findA; rw [if_pos (.inl (kdW_intW n))]
theorem find_nilW (l : List ObjA) : findA l 2 = some (-1) := by unfold findA; rw [if_pos (.inr (by decide))]
theorem make_find {l : List ObjA} {c : CellD} {parts : List Int} (h : WfA l) (he : cellE c = 0) (hu : usedA l + costC c ≤ 262144) : FindOk (makeA l c parts).1 (makeA l c parts).2 := by
  unfold makeA
  split
  · exact ⟨by simp only; rw [find_nilW]; rfl, by simp only; omega⟩
  · split
    · exact ⟨by simp only; rw [find_intW]; rfl, by simp only; unfold intW; omega⟩
    · rename_i h1 h2
      have hc := cost_pos he (fun e => by rcases e with e | e; exact h1 e; exact h2 e)
      refine ⟨by simp only; rw [findA_new _ h.cost (by omega)]; rfl, ?_⟩
      simp only
      unfold wordAt
      split <;> omega
/-- What the new word tells. -/
theorem make_seen {l : List ObjA} {c : CellD} {parts : List Int} (h : WfA l) (he : cellE c = 0) (hk : parts.length = kidsD c) (hu : usedA l + costC c ≤ 262144) : seenA (makeA l c parts).1 (makeA l c parts).2 = some (c, parts) := by
  by_cases h6 : c.kind = 6
  · have e1 : makeA l c parts = (l, 2) := by unfold makeA; rw [if_pos h6]
    rw [e1]
    unfold seenA
    rw [find_nilW]
    have hk0 : kidsD c = 0 := by unfold kidsD; rw [if_neg (by omega), if_neg (by omega)]
    have hp : parts = [] := List.eq_nil_of_length_eq_zero (by omega)
    have hc : c = ⟨6, 0, ⟨#[]⟩⟩ := by
      have hn : c.n = 0 := by unfold cellE at he; repeat' split at he
                              all_goals first | (exfalso; omega) | omega
      have ht : c.text.size = 0 := by have := cellE_text he; omega
      obtain ⟨k, n, t⟩ := c
      simp only at h6 hn ht
      subst h6; subst hn
      congr
      cases t with
      | mk d => simp [ByteArray.size] at ht; simp [ht]
    simp [cellW, hp, ← hc]
  by_cases hs : c.kind = 1 ∧ smallI c.n
  · have e1 : makeA l c parts = (l, intW c.n) := by unfold makeA; rw [if_neg h6, if_pos hs]
    rw [e1]
    unfold seenA
    rw [find_intW]
    have hk0 : kidsD c = 0 := by unfold kidsD; rw [if_neg (by omega), if_neg (by omega)]
    have hp : parts = [] := List.eq_nil_of_length_eq_zero (by omega)
    have hc : c = ⟨1, c.n, ⟨#[]⟩⟩ := by
      have ht : c.text.size = 0 := by have := cellE_text he; omega
      obtain ⟨k, n, t⟩ := c
      obtain ⟨h1, _⟩ := hs
      simp only at h1 ht
      subst h1
      congr
      cases t with
      | mk d => simp [ByteArray.size] at ht; simp [ht]
    have h2 : intW c.n ≠ 2 := by unfold intW; omega
    simp only [cellW, if_neg h2, valW_intW _ hs.2, hp]
    rw [if_pos (by omega), ← hc]
  · have hb : ¬ SmallC c := fun e => by rcases e with e | e; exact h6 e; exact hs e
    have hc := cost_pos he hb
    rw [makeA_big hb]
    unfold seenA
    simp only
    rw [findA_new _ h.cost (by omega)]
    simp only
    rw [if_neg (by omega)]
    simp

/-! what a stack of words tells -/
inductive Tells (l : List ObjA) : List Int → List CellD → Prop
  | nil : Tells l [] []
  | cons {w : Int} {ws : List Int} {c : CellD} {ps : List Int} {t : List CellD} : seenA l w = some (c, ps) → Tells l (ps ++ ws) t → Tells l (w :: ws) (c :: t)
theorem Tells.ext {l l' : List ObjA} (e : Ext l l') {ws : List Int} {t : List CellD} (h : Tells l ws t) : Tells l' ws t := by
  induction h with
  | nil => exact .nil
  | cons hs _ ih => exact .cons (e.seen hs) ih
theorem Tells.append {l : List ObjA} {a b : List Int} {t u : List CellD} (h : Tells l a t) (k : Tells l b u) : Tells l (a ++ b) (t ++ u) := by
  induction h with
  | nil => exact k
  | cons hs _ ih => exact .cons hs (by rw [List.append_assoc] at ih; exact ih)
theorem Tells.det {l : List ObjA} {ws : List Int} {t : List CellD} (h : Tells l ws t) : ∀ {u : List CellD}, Tells l ws u → t = u := by
  induction h with
  | nil => intro u k; cases k; rfl
  | cons hs _ ih =>
    intro u k
    cases k with
    | cons hs' k' =>
      rw [hs] at hs'
      cases hs'
      rw [ih k']
def OpTells (l : List ObjA) : List OpenA → List CellD → Prop
  | [], T => T = []
  | o :: st, T => ∃ p d, T = p ++ o.cell :: d ∧ OpTells l st p ∧ Tells l o.parts d
theorem OpTells.ext {l l' : List ObjA} (e : Ext l l') : ∀ {st : List OpenA} {T : List CellD}, OpTells l st T → OpTells l' st T
  | [], _, h => h
  | o :: st, _, ⟨p, d, h1, h2, h3⟩ => ⟨p, d, h1, OpTells.ext e h2, h3.ext e⟩
structure OpOk (l : List ObjA) (o : OpenA) : Prop where
  good : cellE o.cell = 0
  want : o.want = kidsD o.cell
  lt : o.parts.length < o.want
  parts : ∀ p ∈ o.parts, FindOk l p
theorem OpOk.ext {l l' : List ObjA} {o : OpenA} (h : OpOk l o) (e : Ext l l') : OpOk l' o := ⟨h.good, h.want, h.lt, fun p hp => (h.parts p hp).ext e⟩
def costs (st : List OpenA) : Nat := (st.map fun o => costC o.cell).sum
theorem costs_cons (o : OpenA) (st : List OpenA) : costs (o :: st) = costC o.cell + costs st := by simp [costs]
/-- How many words are waited for, but one. -/
def sumN : List OpenA → Nat
  | [] => 0
  | o :: st => (o.want - o.parts.length - 1) + sumN st
theorem kids_big {c : CellD} (h : 0 < kidsD c) : ¬ SmallC c := by
  intro hs
  unfold kidsD at h
  rcases hs with hs | hs
  · rw [if_neg (by omega), if_neg (by omega)] at h; omega
  · rw [if_neg (by omega), if_neg (by omega)] at h; omega
structure UpStep (l : List ObjA) (st : List OpenA) (o : OpenA) (x : Int) : Prop where
  ext : Ext l (makeA l o.cell (o.parts ++ [x])).1
  wf : WfA (makeA l o.cell (o.parts ++ [x])).1
  fx : FindOk (makeA l o.cell (o.parts ++ [x])).1 (makeA l o.cell (o.parts ++ [x])).2
  ok : ∀ p ∈ st, OpOk (makeA l o.cell (o.parts ++ [x])).1 p
  used : usedA (makeA l o.cell (o.parts ++ [x])).1 + costs st = usedA l + costs (o :: st)
  len : (o.parts ++ [x]).length = kidsD o.cell
  parts : ∀ p ∈ o.parts ++ [x], FindOk l p
  tell : ∀ d e, Tells l o.parts d → Tells l [x] e → Tells (makeA l o.cell (o.parts ++ [x])).1 [(makeA l o.cell (o.parts ++ [x])).2] (o.cell :: (d ++ e))
theorem up_step {l : List ObjA} {st : List OpenA} {o : OpenA} {x : Int} (hw : WfA l) (ho : ∀ p ∈ o :: st, OpOk l p) (hx : FindOk l x) (hu : usedA l + costs (o :: st) ≤ 262144) (hl : ¬ o.parts.length + 1 < o.want) : UpStep l st o x := by
  have k := ho o (by simp)
  have hlen : (o.parts ++ [x]).length = kidsD o.cell := by have := k.lt; have := k.want; simp; omega
  have hparts : ∀ p ∈ o.parts ++ [x], FindOk l p := fun p hp => by
    rcases List.mem_append.1 hp with hp | hp
    · exact k.parts p hp
    · rw [List.mem_singleton.1 hp]; exact hx
  rw [costs_cons] at hu
  have e := makeA_ext l o.cell (o.parts ++ [x])
  refine ⟨e, make_wf hw k.good hlen hparts, make_find hw k.good (by omega), fun p hp => (ho p (by simp [hp])).ext e, ?_, hlen, hparts, fun d f hd hf => ?_⟩
  · rw [make_used k.good, costs_cons]; omega
  · refine .cons (make_seen hw k.good hlen (by omega)) ?_
    rw [List.append_nil]
    exact (hd.ext e).append (hf.ext e)
/-- What up leaves. -/
structure UpEnd (l l' : List ObjA) (st st' : List OpenA) (x' : Int) (T : List CellD) : Prop where
  ext : Ext l l'
  wf : WfA l'
  fx : FindOk l' x'
  ok : ∀ p ∈ st', OpOk l' p
  used : usedA l' + costs st' = usedA l + costs st
  tell : (st' ≠ [] ∧ OpTells l' st' T ∧ sumN st' + 1 = sumN st) ∨ (st' = [] ∧ Tells l' [x'] T ∧ sumN st = 0)
theorem up_end : ∀ (st : List OpenA) (l : List ObjA) (x : Int) (T d : List CellD), WfA l → (∀ p ∈ st, OpOk l p) → FindOk l x → usedA l + costs st ≤ 262144 → OpTells l st T → Tells l [x] d → UpEnd l (upA l st x).1 st (upA l st x).2.1 (upA l st x).2.2 (T ++ d)
  | [], l, x, T, d, hw, ho, hx, hu, hT, hd => by
    have hT' : T = [] := hT
    subst hT'
    exact ⟨Ext.refl l, hw, hx, fun p hp => (by cases hp), rfl, .inr ⟨rfl, hd, rfl⟩⟩
  | o :: st, l, x, T, d, hw, ho, hx, hu, hT, hd => by
    unfold upA
    have k := ho o (by simp)
    obtain ⟨p, d0, rfl, h2, h3⟩ := hT
    by_cases hl : o.parts.length + 1 < o.want
    · rw [if_pos hl]
      refine ⟨Ext.refl l, hw, hx, fun q hq => ?_, by simp [costs_cons], .inl ⟨by simp, ?_, ?_⟩⟩
      · rcases List.mem_cons.1 hq with rfl | hq
        · exact ⟨k.good, k.want, by simp; omega, fun p hp => by
            rcases List.mem_append.1 hp with hp | hp
            · exact k.parts p hp
            · rw [List.mem_singleton.1 hp]; exact hx⟩
        · exact ho q (by simp [hq])
      · exact ⟨p, d0 ++ d, by simp, h2, h3.append hd⟩
      · simp [sumN]; omega
    · rw [if_neg hl]
      have U := up_step hw ho hx hu hl
      have U' := up_end st _ _ p (o.cell :: (d0 ++ d)) U.wf U.ok U.fx (by rw [U.used]; exact hu) (h2.ext U.ext) (U.tell d0 d h3 hd)
      refine ⟨U.ext.trans U'.ext, U'.wf, U'.fx, U'.ok, by rw [U'.used, U.used], ?_⟩
      have e1 : o.want - o.parts.length - 1 = 0 := by have := k.lt; omega
      have ea : (p ++ o.cell :: d0) ++ d = p ++ o.cell :: (d0 ++ d) := by simp
      rw [ea]
      rcases U'.tell with ⟨t1, t2, t3⟩ | ⟨t1, t2, t3⟩
      · exact .inl ⟨t1, t2, by rw [sumN, e1]; omega⟩
      · exact .inr ⟨t1, t2, by rw [sumN, e1]; omega⟩
structure PutInv (l0 l : List ObjA) (st : List OpenA) (x : Int) (T : List CellD) (o : Int) : Prop where
  ext : Ext l0 l
  wf : WfA l
  ok : ∀ p ∈ st, OpOk l p
  used : usedA l + costs st = usedA l0 + totalA T
  tell : (st = [] ∧ T = [] ∧ o = 1) ∨ (st ≠ [] ∧ OpTells l st T ∧ o = ((sumN st + 1 : Nat) : Int)) ∨ (st = [] ∧ FindOk l x ∧ Tells l [x] T ∧ o = 0)
theorem totalA_snoc (T : List CellD) (c : CellD) : totalA (T ++ [c]) = totalA T + costC c := by simp [totalA]
theorem totalA_append (T u : List CellD) : totalA (T ++ u) = totalA T + totalA u := by simp [totalA]
theorem put_step {l0 l : List ObjA} {st : List OpenA} {x : Int} {T : List CellD} {o : Int} {c : CellD} (h : PutInv l0 l st x T o) (he : cellE c = 0) (ho : 0 < o) (hu : usedA l0 + totalA (T ++ [c]) ≤ 262144) :
    PutInv l0 (putStep (l, st, x) c).1 (putStep (l, st, x) c).2.1 (putStep (l, st, x) c).2.2 (T ++ [c]) (o - 1 + kidsD c) := by
  have hT : OpTells l st T ∧ o = ((sumN st + 1 : Nat) : Int) := by
    rcases h.tell with ⟨rfl, rfl, rfl⟩ | ⟨_, h2, h3⟩ | ⟨_, _, _, h3⟩
    · exact ⟨rfl, rfl⟩
    · exact ⟨h2, h3⟩
    · omega
  obtain ⟨hT, rfl⟩ := hT
  have hus := h.used
  rw [totalA_snoc] at hu
  unfold putStep
  by_cases hk : 0 < kidsD c
  · rw [if_pos hk]
    refine ⟨h.ext, h.wf, fun p hp => ?_, by simp only; rw [costs_cons, totalA_snoc]; simp only; omega, .inr (.inl ⟨by simp, ⟨T, [], rfl, hT, .nil⟩, by simp [sumN]; omega⟩)⟩
    rcases List.mem_cons.1 hp with rfl | hp
    · exact ⟨he, rfl, hk, fun p hp => by cases hp⟩
    · exact h.ok p hp
  · rw [if_neg hk]
    have hk0 : kidsD c = 0 := by omega
    have e := makeA_ext l c []
    have hw := make_wf h.wf he (parts := []) (by simp [hk0]) (fun p hp => by cases hp)
    have hf := make_find (parts := []) h.wf he (by omega)
    have hs := make_seen (parts := []) h.wf he (by simp [hk0]) (by omega)
    have hm := make_used (l := l) he []
    have U := up_end st (makeA l c []).1 (makeA l c []).2 T [c] hw (fun p hp => (h.ok p hp).ext e) hf (by rw [hm]; omega) (hT.ext e) (.cons hs .nil)
    refine ⟨(h.ext.trans e).trans U.ext, U.wf, U.ok, by rw [U.used, hm, totalA_snoc]; omega, ?_⟩
    rw [hk0]
    dsimp only
    rcases U.tell with ⟨t1, t2, t3⟩ | ⟨t1, t2, t3⟩
    · exact .inr (.inl ⟨t1, t2, by omega⟩)
    · exact .inr (.inr ⟨t1, U.fx, t2, by omega⟩)
def putF (l : List ObjA) (t : List CellD) : List ObjA × List OpenA × Int := t.foldl putStep (l, [], 0)
theorem put_inv {l0 : List ObjA} (hw : WfA l0) : ∀ (u T : List CellD) (s : List ObjA × List OpenA × Int) (o : Int), PutInv l0 s.1 s.2.1 s.2.2 T o → Good u o → usedA l0 + totalA (T ++ u) ≤ 262144 →
    PutInv l0 (u.foldl putStep s).1 (u.foldl putStep s).2.1 (u.foldl putStep s).2.2 (T ++ u) 0
  | [], T, s, o, h, g, hu => by
    have g0 : o = 0 := g
    subst g0
    simpa using h
  | c :: u, T, s, o, h, g, hu => by
    obtain ⟨g1, g2, g3⟩ := g
    have e : T ++ c :: u = (T ++ [c]) ++ u := by simp
    rw [e] at hu ⊢
    have hu' : usedA l0 + totalA (T ++ [c]) ≤ 262144 := by rw [totalA_append] at hu; omega
    have := put_step (c := c) h g1 g2 hu'
    exact put_inv hw u (T ++ [c]) (putStep s c) _ this g3 hu
end Go.Proofs.YthgnihckeckaiaaDoor.Tm
