/- Values of operands, of both texts; the document's Says. -/
import Derived.Test.YtefpolgflimlgaaDoorSaysA
namespace Go.Proofs.YtefpolgflimlgaaDoor.Tm
open Go.RowKit
set_option linter.unusedVariables false
set_option linter.unusedSimpArgs false

/-- A call answers a slice that reads as a term. -/
def IsSl (w : World) (r : List CellD) (e : Ending) (w' : World) : Prop := ∃ A c, e = .returned (.slice A r.length c) ∧ r.length ≤ c ∧ Reads w' A r ∧ Below w.heap.size w w'
theorem IsSl.of_term {w w1 : World} {r : List CellD} {e : Ending} {w' : World} (hB : Below w.heap.size w w1) (h : IsTerm w1 r e w') : IsSl w r e w' := by
  obtain ⟨A, c, he, ho⟩ := h
  exact ⟨A, c, he, ho.cap, ho.reads, below_then hB ho.bel⟩
theorem IsSl.nil_ {w w' : World} (hB : Below w.heap.size w w') : IsSl w [] (.returned (.slice none 0 0)) w' := ⟨none, 0, rfl, Nat.le_refl _, Reads.nil _ _, hB⟩
theorem IsSl.cell {w w1 : World} {x : CellD} (hB : Below w.heap.size w w1) : IsSl w [x] (.returned (.slice (some ⟨w1.heap.size, 0, none⟩) 1 1)) (w1.alloc (.cells #[.int .i64 x.kind, .int .i64 x.n, .string x.text] 32)) :=
  ⟨_, 1, rfl, Nat.le_refl _, reads_new w1 rfl, below_alloc' hB _⟩
theorem IsSl.cell2 {w : World} {o : Obj} {x : CellD} : IsSl w [x] (.returned (.slice (some ⟨w.heap.size + 1, 0, none⟩) 1 1)) ((w.alloc o).alloc (.cells #[.int .i64 x.kind, .int .i64 x.n, .string x.text] 32)) := by
  have h := IsSl.cell (w := w) (w1 := w.alloc o) (x := x) (below_one w o)
  rwa [World.size_alloc] at h
theorem IsSl.eq {w : World} {r r' : List CellD} {e : Ending} {w' : World} (h : IsSl w r e w') (hr : r' = r) : IsSl w r' e w' := by rw [hr]; exact h
theorem regD_out {x : List (List CellD)} {n : Int} (h : (x.length : Int) ≤ n) : regD x n = [] := by
  unfold regD
  split
  · rfl
  · rw [List.getD_eq_getElem?_getD, List.getElem?_eq_none (by omega)]; rfl
theorem regD_in {x : List (List CellD)} {n : Nat} (h : n < x.length) : regD x n = x[n] := by
  unfold regD
  rw [if_neg (by omega), List.getD_eq_getElem?_getD, Int.toNat_natCast, List.getElem?_eq_getElem h]; rfl
theorem valueD1 {a : CellD} {x : List (List CellD)} (h : a.kind = 1) : valueD a x = regD x a.n := by rw [valueD, if_pos h]
theorem valueD3 {a : CellD} {x : List (List CellD)} (h : a.kind = 3) : valueD a x = [intC a.n] := by rw [valueD, if_neg (by omega), if_pos h]
theorem valueD4 {a : CellD} {x : List (List CellD)} (h : a.kind = 4) : valueD a x = [atomC a.text] := by rw [valueD, if_neg (by omega), if_neg (by omega), if_pos h]
theorem valueD5 {a : CellD} {x : List (List CellD)} (h : a.kind = 5) : valueD a x = [nilC] := by rw [valueD, if_neg (by omega), if_neg (by omega), if_neg (by omega), if_pos h]
theorem valueD0 {a : CellD} {x : List (List CellD)} (h1 : a.kind ≠ 1) (h3 : a.kind ≠ 3) (h4 : a.kind ≠ 4) (h5 : a.kind ≠ 5) : valueD a x = [] := by rw [valueD, if_neg h1, if_neg h3, if_neg h4, if_neg h5]
set_option maxHeartbeats 1000000 in
theorem valueM_any (a : CellD) (x : List (List CellD)) (A : Option Addr) (c : Nat) (w : World) (hx : Reads2 w A x) (h : a.kind = 1 → 0 ≤ a.n) (hl : x.length ≤ 1000000000000000) :
    Calls Tryd.prog (valueFn a) #[aggC a, .slice A x.length c] w (IsSl w (valueD a x)) := by
  have HX := Lib.hid hx
  clear hx
  by_cases h1 : a.kind = 1
  · rw [show valueFn a = 214 by rw [valueFn, if_pos h1]]
    have F := Lib.hid (valueD1 (x := x) h1)
    have hB := below_one w (.cells #[.int .i64 a.kind, .int .i64 a.n, .string a.text] 186)
    have h0 := h h1
    obtain ⟨k, t, n⟩ := a
    obtain ⟨m, rfl⟩ : ∃ m : Nat, t = m := ⟨t.toNat, by simp only at h0; omega⟩
    clear h h1 h0
    by_cases hlt : m < x.length
    · obtain ⟨b, o, rfl, Am, cm, q0, q1, q2⟩ := HX.out m hlt
      have F2 := Lib.hid (F.out.trans (regD_in hlt))
      have q0' := cell_below hB q0
      have Q2 := Lib.hid (q2.below hB)
      have hi1 : (m : Int) < (x.length : Int) := by omega
      have hi0 : (0 : Int) ≤ (m : Int) := Int.natCast_nonneg _
      clear F q0 q2
      go_enter Tryd.func214, Tryd.ntmps214
      go_wp2
      go_ret
      exact IsSl.eq ⟨Am, cm, rfl, q1, Q2.out, hB⟩ F2.out
    · have F2 := Lib.hid (F.out.trans (regD_out (by simp; omega)))
      have hge : (x.length : Int) ≤ (m : Int) := by omega
      clear F
      go_enter Tryd.func214, Tryd.ntmps214
      go_wp2
      go_ret
      exact (IsSl.nil_ hB).eq F2.out
  by_cases h3 : a.kind = 3
  · rw [show valueFn a = 216 by rw [valueFn, if_neg h1, if_pos h3]]
    have F := Lib.hid (valueD3 (x := x) h3)
    have hB := below_one w (.cells #[.int .i64 a.kind, .int .i64 a.n, .string a.text] 187)
    clear h h1 h3
    go_enter Tryd.func216, Tryd.ntmps216
    go_wp2_with fail
    refine (int_any _ _).mono ?_
    rintro e w1 ⟨A1, c1, rfl, ho⟩
    go_wp2
    go_ret
    exact (IsSl.of_term hB ⟨A1, c1, rfl, ho⟩).eq F.out
  by_cases h4 : a.kind = 4
  · rw [show valueFn a = 218 by rw [valueFn, if_neg h1, if_neg h3, if_pos h4]]
    have F := Lib.hid (valueD4 (x := x) h4)
    have hB := below_one w (.cells #[.int .i64 a.kind, .int .i64 a.n, .string a.text] 188)
    clear h h1 h3 h4
    go_enter Tryd.func218, Tryd.ntmps218
    go_wp2_with fail
    refine (atom_any _ _).mono ?_
    rintro e w1 ⟨A1, c1, rfl, ho⟩
    go_wp2
    go_ret
    exact (IsSl.of_term hB ⟨A1, c1, rfl, ho⟩).eq F.out
  by_cases h5 : a.kind = 5
  · rw [show valueFn a = 220 by rw [valueFn, if_neg h1, if_neg h3, if_neg h4, if_pos h5]]
    have F := Lib.hid (valueD5 (x := x) h5)
    have hB := below_one w (.cells #[.int .i64 a.kind, .int .i64 a.n, .string a.text] 189)
    clear h h1 h3 h4 h5
    go_enter Tryd.func220, Tryd.ntmps220
    go_wp2
    go_ret
    exact (IsSl.cell2 (x := nilC)).eq F.out
  · rw [show valueFn a = 222 by rw [valueFn, if_neg h1, if_neg h3, if_neg h4, if_neg h5]]
    have F := Lib.hid (valueD0 (x := x) h1 h3 h4 h5)
    have hB := below_one w (.cells #[.int .i64 a.kind, .int .i64 a.n, .string a.text] 190)
    clear h h1 h3 h4 h5
    go_enter Tryd.func222, Tryd.ntmps222
    go_wp2
    go_ret
    exact (IsSl.nil_ hB).eq F.out
set_option maxHeartbeats 1000000 in
theorem rvalue_any (a : CellD) (x : List (List CellD)) (A : Option Addr) (c : Nat) (w : World) (hx : Reads2 w A x) (hl : x.length ≤ 1000000000000000) :
    Calls Tryd.prog 168 #[aggC a, .slice A x.length c] w (IsSl w (valueD a x)) := by
  have HX := Lib.hid hx
  have hB := below_one w (.cells #[.int .i64 a.kind, .int .i64 a.n, .string a.text] 49)
  clear hx
  by_cases h1 : a.kind = 1
  · have F := Lib.hid (valueD1 (x := x) h1)
    have b1 : (a.kind == 1) = true := by simp [h1]
    clear h1
    by_cases h0 : 0 ≤ a.n
    · obtain ⟨k, t, n⟩ := a
      obtain ⟨m, rfl⟩ : ∃ m : Nat, t = m := ⟨t.toNat, by simp only at h0; omega⟩
      clear h0
      by_cases hlt : m < x.length
      · obtain ⟨b, o, rfl, Am, cm, q0, q1, q2⟩ := HX.out m hlt
        have F2 := Lib.hid (F.out.trans (regD_in hlt))
        have q0' := cell_below hB q0
        have Q2 := Lib.hid (q2.below hB)
        have hi1 : (m : Int) < (x.length : Int) := by omega
        have hi0 : (0 : Int) ≤ (m : Int) := Int.natCast_nonneg _
        clear F q0 q2
        go_enter Tryd.func168, Tryd.ntmps168
        go_wp2
        go_ret
        exact IsSl.eq ⟨Am, cm, rfl, q1, Q2.out, hB⟩ F2.out
      · have F2 := Lib.hid (F.out.trans (regD_out (by simp; omega)))
        have hge : (x.length : Int) ≤ (m : Int) := by omega
        clear F
        go_enter Tryd.func168, Tryd.ntmps168
        go_wp2
        go_ret
        exact (IsSl.nil_ hB).eq F2.out
    · have F2 := Lib.hid (F.out.trans (show regD x a.n = [] by rw [regD, if_pos (by omega)]))
      clear F
      go_enter Tryd.func168, Tryd.ntmps168
      go_wp2
      go_ret
      exact (IsSl.nil_ hB).eq F2.out
  have c1 : (a.kind == 1) = false := beq_eq_false_iff_ne.2 h1
  by_cases h3 : a.kind = 3
  · have F := Lib.hid (valueD3 (x := x) h3)
    have b1 : (a.kind == 3) = true := by simp [h3]
    clear h1 h3
    go_enter Tryd.func168, Tryd.ntmps168
    go_wp2
    go_ret
    exact (IsSl.cell2 (x := intC a.n)).eq F.out
  have c3 : (a.kind == 3) = false := beq_eq_false_iff_ne.2 h3
  by_cases h4 : a.kind = 4
  · have F := Lib.hid (valueD4 (x := x) h4)
    have b1 : (a.kind == 4) = true := by simp [h4]
    clear h1 h3 h4
    go_enter Tryd.func168, Tryd.ntmps168
    go_wp2
    go_ret
    exact (IsSl.cell2 (x := atomC a.text)).eq F.out
  have c4 : (a.kind == 4) = false := beq_eq_false_iff_ne.2 h4
  by_cases h5 : a.kind = 5
  · have F := Lib.hid (valueD5 (x := x) h5)
    have b1 : (a.kind == 5) = true := by simp [h5]
    clear h1 h3 h4 h5
    go_enter Tryd.func168, Tryd.ntmps168
    go_wp2
    go_ret
    exact (IsSl.cell2 (x := nilC)).eq F.out
  · have F := Lib.hid (valueD0 (x := x) h1 h3 h4 h5)
    have c5 : (a.kind == 5) = false := beq_eq_false_iff_ne.2 h5
    clear h1 h3 h4 h5
    go_enter Tryd.func168, Tryd.ntmps168
    go_wp2
    go_ret
    exact (IsSl.nil_ hB).eq F.out
end Go.Proofs.YtefpolgflimlgaaDoor.Tm
