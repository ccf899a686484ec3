/- What the reference's Put lays: plain lists. -/
import Derived.Test.YtejcbpbhhofhlaaDoorRfA
namespace Go.Proofs.YtejcbpbhhofhlaaDoor.Tm
set_option linter.unusedVariables false
set_option linter.unusedSimpArgs false

theorem snoc_ind {α : Type} {P : List α → Prop} (nil : P []) (append_singleton : ∀ l x, P l → P (l ++ [x])) : ∀ l, P l := by
  have h : ∀ l : List α, P l.reverse := fun l => by
    induction l with
    | nil => exact nil
    | cons a l ih => rw [List.reverse_cons]; exact append_singleton _ _ ih
  intro l
  have := h l.reverse
  rwa [List.reverse_reverse] at this
def zeroR : CellD := ⟨0, 0, ⟨#[]⟩⟩
def makeR (rs : List ObjR) (o : ObjR) : List ObjR × ValR := (rs ++ [o], ⟨(rs.length : Int), o.cell⟩)
def leafR (rs : List ObjR) (c : CellD) : List ObjR × ValR := if SmallC c then (rs, ⟨-1, c⟩) else makeR rs ⟨c, []⟩
def layR : Nat → List ObjR → List CellD → List ObjR × ValR
  | 0, rs, t => (rs, ⟨0, zeroR⟩)
  | f + 1, rs, t => if (partsE t).length = 0 then leafR rs (t.headD zeroR) else
      makeR ((partsE t).foldl (fun s k => ((layR f s.1 k).1, s.2 ++ [(layR f s.1 k).2])) (rs, [])).1 ⟨t.headD zeroR, ((partsE t).foldl (fun s k => ((layR f s.1 k).1, s.2 ++ [(layR f s.1 k).2])) (rs, [])).2⟩
def layF (f : Nat) (rs : List ObjR) (ps : List (List CellD)) : List ObjR × List ValR := ps.foldl (fun s k => ((layR f s.1 k).1, s.2 ++ [(layR f s.1 k).2])) (rs, [])
theorem layF_snoc (f : Nat) (rs : List ObjR) (ps : List (List CellD)) (p : List CellD) : layF f rs (ps ++ [p]) = ((layR f (layF f rs ps).1 p).1, (layF f rs ps).2 ++ [(layR f (layF f rs ps).1 p).2]) := by
  unfold layF
  rw [List.foldl_append]
  rfl
theorem layR_leaf {f : Nat} {rs : List ObjR} {t : List CellD} (h : (partsE t).length = 0) : layR (f + 1) rs t = leafR rs (t.headD zeroR) := by rw [layR, if_pos h]
theorem layR_hold {f : Nat} {rs : List ObjR} {t : List CellD} (h : ¬ (partsE t).length = 0) : layR (f + 1) rs t = makeR (layF f rs (partsE t)).1 ⟨t.headD zeroR, (layF f rs (partsE t)).2⟩ := by rw [layR, if_neg h]; rfl
theorem layF_len (f : Nat) (rs : List ObjR) : ∀ (ps : List (List CellD)), (layF f rs ps).2.length = ps.length := by
  intro ps
  induction ps using snoc_ind with
  | nil => rfl
  | append_singleton ps p ih => rw [layF_snoc]; simp [ih]
def sumLen (ps : List (List CellD)) : Nat := (ps.map List.length).sum
theorem sumLen_snoc (ps : List (List CellD)) (p : List CellD) : sumLen (ps ++ [p]) = sumLen ps + p.length := by simp [sumLen]
theorem partsK_sum : ∀ (k : Nat) (l : List CellD), sumLen (partsK k l) ≤ l.length
  | 0, l => Nat.zero_le _
  | k + 1, l => by
    have h := partsK_sum k (skipK l 1)
    have h2 : (skipK l 1).length = l.length - spanK l 1 := by unfold skipK; rw [List.length_drop]
    have h3 := span_le l 1
    have e : sumLen (partsK (k + 1) l) = (l.take (spanK l 1)).length + sumLen (partsK k (skipK l 1)) := by simp [sumLen, partsK]
    rw [e, List.length_take]
    omega
theorem partsE_sum {t : List CellD} (h : t ≠ []) : sumLen (partsE t) + 1 ≤ t.length := by
  cases t with
  | nil => exact absurd rfl h
  | cons c l => have := partsK_sum (kidsD c) l; rw [List.length_cons, partsE]; omega
theorem sumLen_take (ps : List (List CellD)) (j : Nat) : sumLen (ps.take j) ≤ sumLen ps := by
  have h : sumLen (ps.take j ++ ps.drop j) = sumLen (ps.take j) + sumLen (ps.drop j) := by simp only [sumLen, List.map_append, List.sum_append]
  rw [List.take_append_drop] at h
  omega
theorem sumLen_at {ps : List (List CellD)} {j : Nat} (h : j < ps.length) : sumLen (ps.take j) + ps[j].length ≤ sumLen ps := by
  have := sumLen_take ps (j + 1)
  rw [List.take_succ_eq_append_getElem h, sumLen_snoc] at this
  exact this
/-! right terms' parts -/
theorem good_right : ∀ (l : List CellD) (i : Nat) (o : Int), Good l o → rightL l i o = (0, 0)
  | [], i, o, g => by
    have g0 : o = 0 := g
    unfold rightL
    rw [if_neg (by omega)]
  | c :: l, i, o, g => by
    unfold rightL
    rw [if_neg (by rw [g.1]; simp), if_neg (by have := g.2.1; omega)]
    exact good_right l (i + 1) _ g.2.2
theorem right_of_good {l : List CellD} (g : Good l 1) (h : l.length ≤ 1024) : (rightE l).1 = 0 := by
  have h0 : l.length ≠ 0 := fun e => by
    have : l = [] := List.eq_nil_of_length_eq_zero e
    subst this
    exact absurd (show (1 : Int) = 0 from g) (by omega)
  rw [rightE, if_neg h0, if_neg (by omega), good_right l 0 1 g]
theorem Good.split : ∀ (l : List CellD) (k : Nat) (o : Int), 0 ≤ o → Good l (o + k) → Good (l.take (spanK l k)) k ∧ Good (skipK l k) o
  | l, 0, o, ho, g => by
    rw [spanK_zero, skipK_zero]
    exact ⟨rfl, by simpa using g⟩
  | [], k + 1, o, ho, g => by
    have g0 : o + ((k + 1 : Nat) : Int) = 0 := g
    omega
  | c :: l, k + 1, o, ho, g => by
    have h := Good.split l (k + kidsD c) o ho (by
      have := g.2.2
      rw [show o + ((k + 1 : Nat) : Int) - 1 + kidsD c = o + ((k + kidsD c : Nat) : Int) by push_cast; omega] at this
      exact this)
    rw [skipK_cons]
    refine ⟨?_, h.2⟩
    show Good ((c :: l).take (1 + spanK l (k + kidsD c))) _
    rw [Nat.add_comm 1, List.take_succ_cons]
    refine ⟨g.1, by omega, ?_⟩
    rw [show ((k + 1 : Nat) : Int) - 1 + kidsD c = ((k + kidsD c : Nat) : Int) by push_cast; omega]
    exact h.1
theorem partsK_good : ∀ (k : Nat) (l : List CellD), Good l k → (∀ p ∈ partsK k l, Good p 1) ∧ (partsK k l).flatten = l
  | 0, l, g => by
    cases l with
    | nil => exact ⟨fun p hp => (by cases hp), rfl⟩
    | cons c l => exact absurd g.2.1 (by omega)
  | k + 1, l, g => by
    have h := Good.split l 1 (k : Int) (by omega) (by
      rw [show (k : Int) + ((1 : Nat) : Int) = ((k + 1 : Nat) : Int) by push_cast; omega]; exact g)
    have h2 := partsK_good k (skipK l 1) h.2
    refine ⟨fun p hp => ?_, ?_⟩
    · rw [partsK] at hp
      rcases List.mem_cons.1 hp with rfl | hp
      · exact h.1
      · exact h2.1 p hp
    · rw [partsK, List.flatten_cons, h2.2]
      exact List.take_append_drop _ _
theorem parts_good {t : List CellD} (g : Good t 1) : ∃ c, t = c :: (partsE t).flatten ∧ cellE c = 0 ∧ (partsE t).length = kidsD c ∧ ∀ p ∈ partsE t, Good p 1 := by
  cases t with
  | nil => exact absurd (show (1 : Int) = 0 from g) (by omega)
  | cons c l =>
    have h := partsK_good (kidsD c) l (by have := g.2.2; simpa using this)
    exact ⟨c, by rw [partsE, h.2], g.1, by rw [partsE, partsK_len], h.1⟩
theorem good_len {l : List CellD} (g : Good l 1) : l.length ≠ 0 := fun e => by
  have : l = [] := List.eq_nil_of_length_eq_zero e
  subst this
  exact absurd (show (1 : Int) = 0 from g) (by omega)
theorem leafR_len (rs : List ObjR) (c : CellD) : (leafR rs c).1.length ≤ rs.length + 1 := by
  unfold leafR makeR
  split <;> simp
theorem layR_len : ∀ (f : Nat) (rs : List ObjR) (t : List CellD), Good t 1 → (layR f rs t).1.length ≤ rs.length + t.length
  | 0, rs, t, g => by simp [layR]
  | f + 1, rs, t, g => by
    have hl := good_len g
    by_cases h : (partsE t).length = 0
    · rw [layR_leaf h]
      have := leafR_len rs (t.headD zeroR)
      omega
    · rw [layR_hold h]
      have hp : ∀ ps : List (List CellD), (∀ p ∈ ps, Good p 1) → (layF f rs ps).1.length ≤ rs.length + sumLen ps := by
        intro ps
        induction ps using snoc_ind with
        | nil => intro _; simp [layF]
        | append_singleton ps p ih =>
          intro hg
          rw [layF_snoc, sumLen_snoc]
          have h1 := ih (fun q hq => hg q (by simp [hq]))
          have h2 := layR_len f (layF f rs ps).1 p (hg p (by simp))
          simp only
          omega
      obtain ⟨c, _, _, _, hg⟩ := parts_good g
      have h1 := hp (partsE t) hg
      have h2 := partsE_sum (t := t) (by intro e; rw [e] at hl; exact hl rfl)
      simp only [makeR, List.length_append, List.length_singleton]
      omega
theorem layF_size {f : Nat} {rs : List ObjR} : ∀ {ps : List (List CellD)}, (∀ p ∈ ps, Good p 1) → (layF f rs ps).1.length ≤ rs.length + sumLen ps := by
  intro ps
  induction ps using snoc_ind with
  | nil => intro _; simp [layF]
  | append_singleton ps p ih =>
    intro hg
    rw [layF_snoc, sumLen_snoc]
    have h1 := ih (fun q hq => hg q (by simp [hq]))
    have h2 := layR_len f (layF f rs ps).1 p (hg p (by simp))
    simp only
    omega
end Go.Proofs.YtejcbpbhhofhlaaDoor.Tm
