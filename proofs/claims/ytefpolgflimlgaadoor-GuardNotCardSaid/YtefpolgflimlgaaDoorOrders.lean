/- The law OrderOrders: whatever the terms, it returns true. -/
import Derived.Test.YtefpolgflimlgaaDoorKnown5
import Derived.Test.YtefpolgflimlgaaDoorSameR
import Derived.Test.YtefpolgflimlgaaDoorEndsP
namespace Go.Proofs.YtefpolgflimlgaaDoor.Tm
open Go.RowKit
set_option linter.unusedVariables false
set_option linter.unusedSimpArgs false

theorem wrong2 {l m : List CellD} : wrongE [l, m] = 0 ↔ (rightE l).1 = 0 ∧ (rightE m).1 = 0 := by
  unfold wrongE
  split
  · rename_i h; exact ⟨fun e => absurd e h, fun e => absurd e.1 h⟩
  · rename_i h
    unfold wrongE
    split
    · rename_i k; exact ⟨fun e => absurd e k, fun e => absurd e.2 k⟩
    · rename_i k
      simp only [wrongE]
      exact ⟨fun _ => ⟨by simpa using h, by simpa using k⟩, fun _ => trivial⟩
theorem compare_ok {l m : List CellD} (h : (rightE l).1 = 0) (k : (rightE m).1 = 0) : compareE l m = (termCmp l m, 0) := by
  rw [compareE, if_neg (by simp [wrong2.2 ⟨h, k⟩])]
theorem compare_err {l m : List CellD} (h : ¬ ((rightE l).1 = 0 ∧ (rightE m).1 = 0)) : (compareE l m).2 ≠ 0 := by
  have h' : wrongE [l, m] ≠ 0 := fun e => h (wrong2.1 e)
  rw [compareE, if_pos h']; exact h'
theorem term_zero {l m : List CellD} (h : (rightE l).1 = 0) (k : (rightE m).1 = 0) : termCmp l m = 0 ↔ l = m := by
  constructor
  · exact good_whole l m 1 (rightE_ok h).1 (rightE_ok k).1
  · rintro rfl
    have s := term_sides l l
    have t := s.turn
    omega
/-- The statement of the order, of three right terms. -/
theorem order_law {a b c : List CellD} (ha : (rightE a).1 = 0) (hb : (rightE b).1 = 0) (hc : (rightE c).1 = 0) :
    ¬ (termCmp a b ≤ 0 ∧ termCmp b c ≤ 0 ∧ 0 < termCmp a c) ∧ ¬ (0 ≤ termCmp a b ∧ 0 ≤ termCmp b c ∧ termCmp a c < 0) := by
  have ga := (rightE_ok ha).1
  have gb := (rightE_ok hb).1
  have gc := (rightE_ok hc).1
  have t1 := term_trans a b c 1 ga gb gc
  have t2 := term_trans c b a 1 gc gb ga
  have s1 := (term_sides a b).turn
  have s2 := (term_sides b c).turn
  have s3 := (term_sides a c).turn
  constructor
  · rintro ⟨h1, h2, h3⟩; have := t1 h1 h2; omega
  · rintro ⟨h1, h2, h3⟩; have := t2 (by omega) (by omega); omega
set_option maxHeartbeats 4000000 in
theorem orders_any (a b c : List CellD) (A B C : Option Addr) (ca cb cc : Nat) (w : World) (hA : Reads w A a) (hB : Reads w B b) (hC : Reads w C c) (fa : Fine a) (fb : Fine b) (fc : Fine c)
    (la : a.length ≤ ca) (lb : b.length ≤ cb) (lc : c.length ≤ cc) (hT : Tabs w) :
    Calls Tryd.prog 3 #[.slice A a.length ca, .slice B b.length cb, .slice C c.length cc] w fun e w' => e = .returned (.bool true) ∧ Below w.heap.size w w' := by
  have HA := Lib.hid hA
  have HB := Lib.hid hB
  have HC := Lib.hid hC
  have FA := Lib.hid fa
  have FB := Lib.hid fb
  have FC := Lib.hid fc
  have HT := Lib.hid hT
  clear hA hB hC fa fb fc hT
  go_enter Tryd.func3, Tryd.ntmps3
  go_wp2_with fail
  refine (Compare_any a b A B ca cb _ HA.out HB.out FA.out FB.out la lb HT.out).mono ?_
  rintro e w1 ⟨rfl, hB1⟩
  go_wp2_with fail
  refine (Compare_any b a B A cb ca _ (HB.out.below hB1) (HA.out.below hB1) FB.out FA.out lb la (Utf8Tabs_below HT.out hB1)).mono ?_
  rintro e w2 ⟨rfl, hb2⟩
  have hB2 := below_then hB1 hb2
  clear hb2
  go_wp2_with fail
  refine (Compare_any b c B C cb cc _ (HB.out.below hB2) (HC.out.below hB2) FB.out FC.out lb lc (Utf8Tabs_below HT.out hB2)).mono ?_
  rintro e w3 ⟨rfl, hb3⟩
  have hB3 := below_then hB2 hb3
  clear hb3
  go_wp2_with fail
  refine (Compare_any a c A C ca cc _ (HA.out.below hB3) (HC.out.below hB3) FA.out FC.out la lc (Utf8Tabs_below HT.out hB3)).mono ?_
  rintro e w4 ⟨rfl, hb4⟩
  have hB4 := below_then hB3 hb4
  have HT4 := Lib.hid (Utf8Tabs_below HT.out hB4)
  clear hb4 hB1 hB2 hB3
  by_cases hab : (rightE a).1 = 0 ∧ (rightE b).1 = 0
  · by_cases hc0 : (rightE c).1 = 0
    · rw [compare_ok hab.1 hab.2, compare_ok hab.2 hab.1, compare_ok hab.2 hc0, compare_ok hab.1 hc0]
      have law := order_law hab.1 hab.2 hc0
      have zero := term_zero hab.1 hab.2
      have sab := term_sides a b
      have sbc := term_sides b c
      have sac := term_sides a c
      have hy : termCmp b a = - termCmp a b := by have := sab.turn; omega
      rw [hy]
      clear hy
      have rx := sab.rng
      have rz := sbc.rng
      have rw_ := sac.rng
      clear sab sbc sac
      have sm := rsame_any A B ca cb a b w4 (HA.out.below hB4) (HB.out.below hB4) FA.out.lim FB.out.lim
      have SM := Lib.hid sm
      clear sm
      generalize termCmp a b = X at *
      generalize termCmp b c = Z at *
      generalize termCmp a c = W at *
      have hd : decide (a = b) = decide (X = 0) := by simp [zero]
      have HD := Lib.hid hd
      clear hd zero hab hc0
      rcases rx with rfl | rfl | rfl <;> rcases rz with rfl | rfl | rfl <;> rcases rw_ with rfl | rfl | rfl <;> first | (exfalso; omega) | skip
      all_goals
        clear law
        go_wp2_with fail
        refine SM.out.mono ?_
        rintro e w5 ⟨rfl, hb5⟩
        rw [HD.out]
        have hB5 := below_then hB4 hb5
        go_wp2_with fail
        refine (known5_any _ (Utf8Tabs_below HT4.out hb5)).mono ?_
        rintro e w6 ⟨rfl, hb6⟩
        go_wp2
        go_ret
        exact ⟨rfl, below_then hB5 hb6⟩
    · rw [compare_ok hab.1 hab.2, compare_ok hab.2 hab.1]
      have hg := compare_err (l := b) (m := c) (fun e => hc0 e.2)
      have ht : ((compareE b c).2 != 0) = true := by rw [bne_iff_ne]; exact hg
      generalize (compareE b c).2 = G at *
      clear hg hc0 hab
      go_wp2_with fail
      refine (known5_any _ HT4.out).mono ?_
      rintro e w6 ⟨rfl, hb6⟩
      go_wp2
      go_ret
      exact ⟨rfl, below_then hB4 hb6⟩
  · have he := compare_err hab
    have hf := compare_err (l := b) (m := a) (fun e => hab ⟨e.2, e.1⟩)
    have ht : ((compareE a b).2 != 0) = true := by rw [bne_iff_ne]; exact he
    have ht2 : ((compareE b a).2 != 0) = true := by rw [bne_iff_ne]; exact hf
    generalize (compareE a b).2 = E at *
    generalize (compareE b a).2 = G at *
    clear he hf hab
    go_wp2_with fail
    refine (known5_any _ HT4.out).mono ?_
    rintro e w6 ⟨rfl, hb6⟩
    go_wp2
    go_ret
    exact ⟨rfl, below_then hB4 hb6⟩
theorem orders_row (A : Option Addr) (ca : Nat) (a : List CellD) (B : Option Addr) (cb : Nat) (b : List CellD) (C : Option Addr) (cc : Nat) (c : List CellD) (w : World) (hT : Tabs w)
    (la : a.length ≤ ca) (hA : Reads w A a) (sa : ∀ j (h : j < a.length), (a[j]).text.size ≤ 9223372036854775807) (ya : a.length * 32 ≤ 140737488351232)
    (lb : b.length ≤ cb) (hB : Reads w B b) (sb : ∀ j (h : j < b.length), (b[j]).text.size ≤ 9223372036854775807) (yb : b.length * 32 ≤ 140737488351232)
    (lc : c.length ≤ cc) (hC : Reads w C c) (sc : ∀ j (h : j < c.length), (c[j]).text.size ≤ 9223372036854775807) (yc : c.length * 32 ≤ 140737488351232) :
    Calls Tryd.prog 3 #[.slice A a.length ca, .slice B b.length cb, .slice C c.length cc] w fun e w' => e = .returned (.bool true) ∧ Below w.heap.size w w' :=
  orders_any a b c A B C ca cb cc w hA hB hC ⟨ya, sa⟩ ⟨yb, sb⟩ ⟨yc, sc⟩ la lb lc hT
end Go.Proofs.YtefpolgflimlgaaDoor.Tm
