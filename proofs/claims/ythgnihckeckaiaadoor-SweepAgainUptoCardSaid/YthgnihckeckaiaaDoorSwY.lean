/- Sweep's law: pairs, of a map that keeps what words stand for. -/
import Derived.Test.YthgnihckeckaiaaDoorSwI
import Derived.Test.YthgnihckeckaiaaDoorSwD
import Derived.BigQuiet
namespace Go.Proofs.YthgnihckeckaiaaDoor.Tm
open Go.RowKit Go.Shelf
set_option linter.unusedVariables false
set_option linter.unusedSimpArgs false

theorem encW_app (a b : List Int) : encW (a ++ b) = encW a ++ encW b := by simp [encW]
theorem LrRep.mores {w wr wa w' : World} {mo sB P : List Int} {vM vS v' : Value} (h : LrRep w wr mo sB vM vS) (hB : Below wr.heap.size wr wa) (hg : wa.grownBy w' vM.ownBlock)
    (hrow : w'.ownsRow w.heap.size 27 1 v' (mo.length + P.length) (encW mo ++ encW P)) (hat : v'.ownBlock = vM.ownBlock ∨ v'.ownBlock = some wa.heap.size) : LrRep w w' (mo ++ P) sB v' vS := by
  have h := h.below hB
  refine ⟨below_grown h.base hg (row_base h.out), ?_, h.stk.kept hg ?_, fun k hk e => ?_⟩
  · rw [List.length_append, encW_app]
    exact hrow
  · cases hv : vS.ownBlock with
    | none => exact .inl rfl
    | some k => exact .inr (fun e => h.ne k e.symm hv)
  · rcases hat with h' | h'
    · exact h.ne k (h' ▸ hk) e
    · rw [hk] at h'
      injection h' with h'
      have := row_lt h.stk k e; omega
theorem LrRep.pushs {w wr wa w' : World} {mo sB P : List Int} {vM vS v' : Value} (h : LrRep w wr mo sB vM vS) (hB : Below wr.heap.size wr wa) (hg : wa.grownBy w' vS.ownBlock)
    (hrow : w'.ownsRow w.heap.size 27 1 v' (sB.length + P.length) (encW sB ++ encW P)) (hat : v'.ownBlock = vS.ownBlock ∨ v'.ownBlock = some wa.heap.size) : LrRep w w' mo (sB ++ P) vM v' := by
  have h := h.below hB
  refine ⟨below_grown h.base hg (row_base h.stk), h.out.kept hg ?_, ?_, fun k hk e => ?_⟩
  · cases hv : vM.ownBlock with
    | none => exact .inl rfl
    | some k => exact .inr (fun e => h.ne k hv e.symm)
  · rw [List.length_append, encW_app]
    exact hrow
  · rcases hat with h' | h'
    · exact h.ne k hk (h' ▸ e)
    · rw [e] at h'
      injection h' with h'
      have := row_lt h.out k hk; omega
/-- How many are not met yet. -/
def leftR (R M : List Int) : Nat := (R.filter fun x => decide (x ∉ M)).length
theorem left_le : ∀ (R M : List Int) (v : Int), leftR R (M ++ [v]) ≤ leftR R M
  | [], M, v => by simp [leftR]
  | x :: R, M, v => by
    have ih := left_le R M v
    unfold leftR at ih ⊢
    rw [List.filter_cons, List.filter_cons]
    by_cases h1 : x ∈ M
    · rw [if_neg (by simp [h1]), if_neg (by simp [h1])]
      exact ih
    · by_cases h2 : x = v
      · rw [if_neg (by simp [h2]), if_pos (by simp [h1])]
        simp only [List.length_cons]
        omega
      · rw [if_pos (by simp [h1, h2]), if_pos (by simp [h1])]
        simp only [List.length_cons]
        omega
theorem left_lt : ∀ (R M : List Int) (v : Int), v ∈ R → v ∉ M → leftR R (M ++ [v]) + 1 ≤ leftR R M
  | [], M, v, h, _ => by cases h
  | x :: R, M, v, h, hn => by
    by_cases h2 : x = v
    · have ih := left_le R M v
      unfold leftR at ih ⊢
      rw [List.filter_cons, List.filter_cons, if_neg (by simp [h2]), if_pos (by simp [h2, hn])]
      simp only [List.length_cons]
      omega
    · have hv : v ∈ R := by
        rcases List.mem_cons.1 h with h | h
        · exact absurd h.symm h2
        · exact h
      have ih := left_lt R M v hv hn
      unfold leftR at ih ⊢
      rw [List.filter_cons, List.filter_cons]
      by_cases h1 : x ∈ M
      · rw [if_neg (by simp [h1]), if_neg (by simp [h1])]
        exact ih
      · rw [if_pos (by simp [h1, h2]), if_pos (by simp [h1])]
        simp only [List.length_cons]
        omega
/-- Where the comparison stands. -/
structure PrNow (L L' : List ObjA) (R : List Int) (f : Int → Int) (n0 t : Nat) (F : List Int) : Prop where
  ok : ∀ x ∈ F, FindOk L x ∧ (ptrW x = true → x ∈ R)
  le : t ≤ F.length
  bnd : F.length + 255 * leftR R (F.take t) ≤ n0 + 255 * R.length
theorem PrNow.start {L L' : List ObjA} {R : List Int} {f : Int → Int} {F : List Int} (h : ∀ x ∈ F, FindOk L x ∧ (ptrW x = true → x ∈ R)) : PrNow L L' R f F.length 0 F := by
  refine ⟨h, Nat.zero_le _, ?_⟩
  have : leftR R (F.take 0) ≤ R.length := List.length_filter_le _ _
  omega
theorem take_app {F P : List Int} {t : Nat} (h : t < F.length) : (F ++ P).take (t + 1) = F.take t ++ [F[t]] := by
  rw [List.take_append_of_le_length (by omega), List.take_succ_eq_append_getElem h]
theorem PrNow.next {L L' : List ObjA} {R : List Int} {f : Int → Int} {n0 t : Nat} {F : List Int} (h : PrNow L L' R f n0 t F) (ht : t < F.length) : PrNow L L' R f n0 (t + 1) F := by
  refine ⟨h.ok, by omega, ?_⟩
  have h1 := h.bnd
  have h2 := left_le R (F.take t) F[t]
  have e := take_app (P := []) ht
  rw [List.append_nil] at e
  rw [e]
  omega
theorem PrNow.more {L L' : List ObjA} {R : List Int} {f : Int → Int} {n0 t : Nat} {F : List Int} (hw : WfA L) (H : HomW L L' R f) (h : PrNow L L' R f n0 t F) (ht : t < F.length) (hp : ptrW F[t] = true) (hn : F[t] ∉ F.take t) : PrNow L L' R f n0 (t + 1) (F ++ partsW L F[t]) := by
  have hx := h.ok F[t] (List.getElem_mem ht)
  refine ⟨fun x hx' => ?_, by rw [List.length_append]; omega, ?_⟩
  · rcases List.mem_append.1 hx' with hx' | hx'
    · exact h.ok x hx'
    · exact ⟨(parts_rank hw hx').1, fun q => H.parts _ (hx.2 hp) x hx' q⟩
  · have h1 := h.bnd
    have h2 := left_lt R (F.take t) F[t] (hx.2 hp) hn
    have h3 := parts_len hw F[t]
    rw [take_app ht, List.length_append]
    omega
theorem HomW.beq {L L' : List ObjA} {R : List Int} {f : Int → Int} (H : HomW L L' R f) {a v : Int} (ha : FindOk L a ∧ (ptrW a = true → a ∈ R)) (hv : FindOk L v) (hp : ptrW v = true) (hr : v ∈ R) : (f a == f v) = (a == v) := by
  by_cases e : a = v
  · rw [e]
    simp
  · have e1 : (a == v) = false := beq_eq_false_iff_ne.2 e
    rw [e1]
    refine beq_eq_false_iff_ne.2 fun q => ?_
    cases hpa : ptrW a with
    | true => exact e (H.inj a (ha.2 hpa) v hr q)
    | false =>
      have h1 := (H.ptr hv (fun _ => hr)).1
      rw [← q, H.flat a hpa, hpa, hp] at h1
      cases h1
end Go.Proofs.YthgnihckeckaiaaDoor.Tm
