/- What roots reach, a word ahead of what it holds: plain lists. -/
import Derived.Test.YthgnihckeckaiaaDoorCoW
namespace Go.Proofs.YthgnihckeckaiaaDoor.Tm
set_option linter.unusedVariables false
set_option linter.unusedSimpArgs false

def preF (L : List ObjA) : Nat → List Int → Int → List Int
  | 0, m, _ => m
  | f + 1, m, x => if ptrW x = false ∨ x ∈ m then m else (partsW L x).foldl (preF L f) (m ++ [x])
theorem preF_fuel {L : List ObjA} (hw : WfA L) : ∀ (n f g : Nat) (x : Int) (m : List Int), rkW L x < n → n ≤ f → n ≤ g → preF L f m x = preF L g m x
  | 0, _, _, _, _, h, _, _ => absurd h (Nat.not_lt_zero _)
  | n + 1, f, g, x, m, h, hf, hg => by
    obtain ⟨f, rfl⟩ : ∃ k, f = k + 1 := ⟨f - 1, by omega⟩
    obtain ⟨g, rfl⟩ : ∃ k, g = k + 1 := ⟨g - 1, by omega⟩
    unfold preF
    rw [foldl_same (partsW L x) (m ++ [x]) (fun p hp m => preF_fuel hw n f g p m (by have := (parts_rank hw hp).2; omega) (by omega) (by omega))]
def preW (L : List ObjA) (m : List Int) (x : Int) : List Int := preF L (L.length + 2) m x
theorem preW_eq {L : List ObjA} (hw : WfA L) (m : List Int) (x : Int) : preW L m x = if ptrW x = false ∨ x ∈ m then m else (partsW L x).foldl (preW L) (m ++ [x]) := by
  unfold preW
  rw [preF]
  rw [foldl_same (partsW L x) (m ++ [x]) (fun p _ m => preF_fuel hw (L.length + 1) (L.length + 1) (L.length + 2) p m (by have := rkW_le L p; omega) (by omega) (by omega))]
theorem pre_pop {L : List ObjA} (hw : WfA L) {m : List Int} {x : Int} (st : List Int) (h : ptrW x = false ∨ x ∈ m) : (x :: st).foldl (preW L) m = st.foldl (preW L) m := by
  rw [List.foldl_cons, preW_eq hw, if_pos h]
theorem pre_push {L : List ObjA} (hw : WfA L) {m : List Int} {x : Int} (st : List Int) (hp : ptrW x = true) (hn : x ∉ m) : (x :: st).foldl (preW L) m = (partsW L x ++ st).foldl (preW L) (m ++ [x]) := by
  have hne : ¬ (ptrW x = false ∨ x ∈ m) := fun h => h.elim (fun e => by rw [hp] at e; simp at e) hn
  rw [List.foldl_cons, preW_eq hw, if_neg hne, List.foldl_append]
theorem MetOk.add {L : List ObjA} {m : List Int} {x : Int} (h : MetOk L m) (hx : FindOk L x) (hp : ptrW x = true) (hn : x ∉ m) : MetOk L (m ++ [x]) := by
  have := h.fin hx hp
  unfold finW at this
  rw [if_neg hn] at this
  exact this
theorem MetOk.nil (L : List ObjA) : MetOk L [] := ⟨List.nodup_nil, fun x hx => (by cases hx)⟩
theorem preF_spec {L : List ObjA} (hw : WfA L) : ∀ (f : Nat) (m : List Int) (x : Int), MetOk L m → FindOk L x → MetOk L (preF L f m x) ∧ ∀ y ∈ m, y ∈ preF L f m x
  | 0, m, _, h, _ => ⟨h, fun y hy => hy⟩
  | f + 1, m, x, h, hx => by
    unfold preF
    split
    · exact ⟨h, fun y hy => hy⟩
    · rename_i hn
      have key : ∀ (l : List Int) (m : List Int), MetOk L m → (∀ p ∈ l, FindOk L p) → MetOk L (l.foldl (preF L f) m) ∧ ∀ y ∈ m, y ∈ l.foldl (preF L f) m := by
        intro l
        induction l with
        | nil => exact fun m h _ => ⟨h, fun y hy => hy⟩
        | cons p l ih =>
          intro m h hp
          obtain ⟨a1, a2⟩ := preF_spec hw f m p h (hp p (by simp))
          obtain ⟨b1, b2⟩ := ih _ a1 (fun q hq => hp q (by simp [hq]))
          exact ⟨b1, fun y hy => b2 y (a2 y hy)⟩
      have hpx : ptrW x = true := by cases hp : ptrW x <;> simp_all
      have hnx : x ∉ m := fun h => hn (.inr h)
      obtain ⟨k1, k2⟩ := key (partsW L x) (m ++ [x]) (h.add hx hpx hnx) (fun p hp => (parts_rank hw hp).1)
      exact ⟨k1, fun y hy => k2 y (by simp [hy])⟩
theorem pre_ok {L : List ObjA} (hw : WfA L) {m : List Int} {x : Int} (h : MetOk L m) (hx : FindOk L x) : MetOk L (preW L m x) := (preF_spec hw _ m x h hx).1
theorem pre_sub {L : List ObjA} (hw : WfA L) {m : List Int} {x : Int} (h : MetOk L m) (hx : FindOk L x) : ∀ y ∈ m, y ∈ preW L m x := (preF_spec hw _ m x h hx).2
theorem prefold_ok {L : List ObjA} (hw : WfA L) : ∀ (l : List Int) (m : List Int), MetOk L m → (∀ p ∈ l, FindOk L p) → MetOk L (l.foldl (preW L) m) ∧ ∀ y ∈ m, y ∈ l.foldl (preW L) m
  | [], _, h, _ => ⟨h, fun y hy => hy⟩
  | p :: l, m, h, hp => by
    obtain ⟨a, b⟩ := prefold_ok hw l _ (pre_ok hw h (hp p (by simp))) (fun q hq => hp q (by simp [hq]))
    exact ⟨a, fun y hy => b y (pre_sub hw h (hp p (by simp)) y hy)⟩
/-- What is met is closed, but for what is on the stack. -/
def ClosedW (L : List ObjA) (m st : List Int) : Prop := ∀ x ∈ m, ∀ p ∈ partsW L x, ptrW p = true → p ∈ m ∨ p ∈ st
def PreNow (L : List ObjA) (m st : List Int) : Prop := MetOk L m ∧ (∀ p ∈ st, FindOk L p) ∧ ClosedW L m st
theorem PreNow.pop {L : List ObjA} {m st : List Int} {x : Int} (h : PreNow L m (x :: st)) (hs : ptrW x = false ∨ x ∈ m) : PreNow L m st := by
  refine ⟨h.1, fun p hp => h.2.1 p (by simp [hp]), fun y hy p hp hq => ?_⟩
  rcases h.2.2 y hy p hp hq with h1 | h1
  · exact .inl h1
  · rcases List.mem_cons.1 h1 with rfl | h1
    · rcases hs with hs | hs
      · rw [hs] at hq; cases hq
      · exact .inl hs
    · exact .inr h1
theorem PreNow.push {L : List ObjA} (hw : WfA L) {m st : List Int} {x : Int} (h : PreNow L m (x :: st)) (hp : ptrW x = true) (hn : x ∉ m) : PreNow L (m ++ [x]) (partsW L x ++ st) := by
  refine ⟨h.1.add (h.2.1 x (by simp)) hp hn, fun p hp => ?_, fun y hy p hp hq => ?_⟩
  · rcases List.mem_append.1 hp with hp | hp
    · exact (parts_rank hw hp).1
    · exact h.2.1 p (by simp [hp])
  · rcases List.mem_append.1 hy with hy | hy
    · rcases h.2.2 y hy p hp hq with h1 | h1
      · exact .inl (by simp [h1])
      · rcases List.mem_cons.1 h1 with rfl | h1
        · exact .inl (by simp)
        · exact .inr (by simp [h1])
    · rw [List.mem_singleton.1 hy] at hp
      exact .inr (by simp [hp])
/-- The whole run: what comes is closed. -/
theorem pre_run {L : List ObjA} (hw : WfA L) : ∀ (n : Nat) (m st : List Int), st.length + 300 * (L.length - m.length) < n → PreNow L m st → PreNow L (st.foldl (preW L) m) [] ∧ (∀ y ∈ m, y ∈ st.foldl (preW L) m) ∧ ∀ y ∈ st, ptrW y = true → y ∈ st.foldl (preW L) m
  | 0, _, _, h, _ => absurd h (Nat.not_lt_zero _)
  | n + 1, m, [], _, h => ⟨h, fun y hy => hy, fun y hy => (by cases hy)⟩
  | n + 1, m, x :: st, hn, h => by
    by_cases hs : ptrW x = false ∨ x ∈ m
    · rw [pre_pop hw st hs]
      obtain ⟨a, b, c⟩ := pre_run hw n m st (by simp at hn; omega) (h.pop hs)
      refine ⟨a, b, fun y hy hq => ?_⟩
      rcases List.mem_cons.1 hy with rfl | hy
      · rcases hs with hs | hs
        · rw [hs] at hq; cases hq
        · exact b _ hs
      · exact c y hy hq
    · have hp : ptrW x = true := by cases hp : ptrW x <;> simp_all
      have hx : x ∉ m := fun q => hs (.inr q)
      have hk := h.push hw hp hx
      have hl := hk.1.len
      have hpl := parts_len hw x
      rw [List.length_append, List.length_singleton] at hl
      rw [pre_push hw st hp hx]
      obtain ⟨a, b, c⟩ := pre_run hw n (m ++ [x]) (partsW L x ++ st) (by rw [List.length_append, List.length_append, List.length_singleton]; rw [List.length_cons] at hn; omega) hk
      refine ⟨a, fun y hy => b y (by simp [hy]), fun y hy hq => ?_⟩
      rcases List.mem_cons.1 hy with rfl | hy
      · exact b _ (by simp)
      · exact c y (by simp [hy]) hq
/-- What roots reach. -/
def rchW (L : List ObjA) (roots : List Int) : List Int := roots.foldl (preW L) []
structure RchOk (L : List ObjA) (roots R : List Int) : Prop where
  met : MetOk L R
  roots : ∀ x ∈ roots, ptrW x = true → x ∈ R
  parts : ∀ x ∈ R, ∀ p ∈ partsW L x, ptrW p = true → p ∈ R
theorem rch_ok {L : List ObjA} (hw : WfA L) {roots : List Int} (h : ∀ x ∈ roots, FindOk L x) : RchOk L roots (rchW L roots) := by
  obtain ⟨a, b, c⟩ := pre_run hw _ [] roots (Nat.lt_succ_self _) ⟨MetOk.nil L, h, fun x hx => (by cases hx)⟩
  exact ⟨a.1, c, fun x hx p hp hq => (a.2.2 x hx p hp hq).resolve_right (by simp)⟩
theorem MetOk.len' {L : List ObjA} {m : List Int} (h : MetOk L m) : m.length ≤ L.length := h.len
end Go.Proofs.YthgnihckeckaiaaDoor.Tm
