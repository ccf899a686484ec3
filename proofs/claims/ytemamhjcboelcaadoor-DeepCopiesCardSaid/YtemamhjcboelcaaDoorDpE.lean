/- What is told is right. -/
import Derived.Test.YtemamhjcboelcaaDoorDpC
namespace Go.Proofs.YtemamhjcboelcaaDoor.Tm
set_option linter.unusedVariables false
set_option linter.unusedSimpArgs false

theorem good_rightL : ∀ (l : List CellD) (i : Nat) (o : Int), Good l o → rightL l i o = (0, 0)
  | [], i, o, g => by
    have g0 : o = 0 := g
    unfold rightL
    rw [if_neg (by omega)]
  | c :: l, i, o, g => by
    unfold rightL
    rw [if_neg (by rw [g.1]; simp), if_neg (by have := g.2.1; omega)]
    exact good_rightL l (i + 1) _ g.2.2
theorem seen_kids {L : List ObjA} (hw : WfA L) {x : Int} {c : CellD} {ps : List Int} (hs : seenA L x = some (c, ps)) : ps.length = kidsD c := by
  rcases seen_obj hs with ⟨_, rfl, rfl⟩ | ⟨k, hk, _, rfl, rfl⟩
  · unfold cellW
    split <;> simp [kidsD]
  · exact (hw k hk).kids
theorem tells_goodT {L : List ObjA} (hw : WfA L) (hc : ∀ o ∈ L, WfC o.cell) {ws : List Int} {t : List CellD} (h : Tells L ws t) : Good t (ws.length : Int) := by
  induction h with
  | nil => exact rfl
  | @cons w ws c ps t hs _ ih =>
    refine ⟨(seen_good hw hc hs).1, by simp only [List.length_cons]; omega, ?_⟩
    have e : (((w :: ws).length : Nat) : Int) - 1 + (kidsD c : Int) = ((ps ++ ws).length : Int) := by
      rw [List.length_append, seen_kids hw hs]
      simp only [List.length_cons]
      omega
    rw [e]
    exact ih
theorem tells_right {L : List ObjA} (hw : WfA L) (hc : ∀ o ∈ L, WfC o.cell) {x : Int} {t : List CellD} (h : Tells L [x] t) (hl : t.length ≤ 1024) : (rightE t).1 = 0 := by
  have g := tells_goodT hw hc h
  have hn : t.length ≠ 0 := fun e => by
    have := List.eq_nil_of_length_eq_zero e
    subst this
    cases h
  rw [rightE, if_neg hn, if_neg (by omega), good_rightL t 0 1 g]
/-- A Put of what is told fails for want of room alone. -/
theorem put_told {L : List ObjA} (hw : WfA L) (hc : ∀ o ∈ L, WfC o.cell) {x : Int} {t : List CellD} (h : Tells L [x] t) (hl : t.length ≤ 1024) (room2 : Nat) (L2 : List ObjA) : putE room2 L2 t = if (room2 : Int) - (usedA L2 : Int) < (totalA t : Int) then 30 else 0 := by
  unfold putE
  rw [if_neg (by rw [tells_right hw hc h hl]; simp)]
theorem tells_total {L : List ObjA} (hw : WfA L) (hc : ∀ o ∈ L, WfC o.cell) {x : Int} {t : List CellD} (h : Tells L [x] t) : (totalA t : Int) ≤ 130 * (t.length : Int) - 1 := by
  have key : ∀ (l : List CellD) (o : Int), Good l o → (totalA l : Int) ≤ 130 * (l.length : Int) - o := by
    intro l
    induction l with
    | nil => intro o g; have g0 : o = 0 := g; simp [totalA, g0]
    | cons c l ih =>
      intro o g
      have h1 := cost_le g.1
      have h2 := ih _ g.2.2
      have e : totalA (c :: l) = costC c + totalA l := by simp [totalA]
      rw [e]
      simp only [List.length_cons]
      push_cast
      omega
  exact key t 1 (tells_goodT hw hc h)
end Go.Proofs.YtemamhjcboelcaaDoor.Tm
