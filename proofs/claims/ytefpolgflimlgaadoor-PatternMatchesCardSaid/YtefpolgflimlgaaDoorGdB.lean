/- GdB: several texts in one. -/
import Derived.Test.YtefpolgflimlgaaDoorSays
import Derived.Test.YtefpolgflimlgaaDoorBase
import Derived.Test.YtefpolgflimlgaaDoorGdA
import Derived.Test.YtefpolgflimlgaaDoorMid
import Derived.Laws.Strings2
import Derived.WalkLawsBesides
import Derived.Handy
import Derived.BigQuiet
import Derived.WalkSmall
import Derived.RegionTactic
import Derived.Deep.QuietTactic
/- says at any operation; the document's Order and Says; values of operands. -/
namespace Go.Proofs.YtefpolgflimlgaaDoor.Tm
open Go.RowKit
set_option linter.unusedVariables false
set_option linter.unusedSimpArgs false

theorem op_cases {op : Int} (h : opB op = true) : op = 1 ∨ op = 2 ∨ op = 3 ∨ op = 4 ∨ op = 5 ∨ op = 6 ∨ op = 7 ∨ op = 8 ∨ op = 9 ∨ op = 10 ∨ op = 11 ∨ op = 12 ∨ op = 13 := by
  simp [opB] at h; omega
theorem says_any (op : Int) (a b : List CellD) (A B : Option Addr) (c d : Nat) (w : World) (hr : Reads w A a) (hr2 : Reads w B b) (hf : Fine a) (hf2 : Fine b) (hc : a.length ≤ c) (hd : b.length ≤ d) (hT : Tabs w)
    (ho : opB op = true) (hne : a ≠ []) (hk : op ≤ 6 → (rightE a).1 = 0 ∧ (rightE b).1 = 0) :
    Calls Tryd.prog 109 #[.int .i64 op, agg2 A B a.length b.length c d] w fun e w' => e = .returned (.bool (saysB op a b)) ∧ Below w.heap.size w w' := by
  obtain ⟨x, a', rfl⟩ : ∃ x a', a = x :: a' := by
    cases a with
    | nil => exact absurd rfl hne
    | cons x a' => exact ⟨x, a', rfl⟩
  have hc' : a'.length + 1 ≤ c := hc
  rcases op_cases ho with rfl | rfl | rfl | rfl | rfl | rfl | rfl | rfl | rfl | rfl | rfl | rfl | rfl
  · have k := hk (by omega)
    exact (says_1 _ b A B c d w hr hr2 hf hf2 hc hd hT k.1 k.2).mono fun _ _ h => by simpa [saysB] using h
  · have k := hk (by omega)
    exact (says_2 _ b A B c d w hr hr2 hf hf2 hc hd hT k.1 k.2).mono fun _ _ h => by simpa [saysB] using h
  · have k := hk (by omega)
    exact (says_3 _ b A B c d w hr hr2 hf hf2 hc hd hT k.1 k.2).mono fun _ _ h => by simpa [saysB] using h
  · have k := hk (by omega)
    exact (says_4 _ b A B c d w hr hr2 hf hf2 hc hd hT k.1 k.2).mono fun _ _ h => by simpa [saysB] using h
  · have k := hk (by omega)
    exact (says_5 _ b A B c d w hr hr2 hf hf2 hc hd hT k.1 k.2).mono fun _ _ h => by simpa [saysB] using h
  · have k := hk (by omega)
    exact (says_6 _ b A B c d w hr hr2 hf hf2 hc hd hT k.1 k.2).mono fun _ _ h => by simpa [saysB] using h
  · exact (says_7 x a' b A B c d w hr hc').mono fun _ _ h => by simpa [saysB] using h
  · exact (says_8 x a' b A B c d w hr hc').mono fun _ _ h => by simpa [saysB] using h
  · exact (says_9 x a' b A B c d w hr hc').mono fun _ _ h => by simpa [saysB] using h
  · exact (says_10 x a' b A B c d w hr hc').mono fun _ _ h => by simpa [saysB] using h
  · exact (says_11 x a' b A B c d w hr hc').mono fun _ _ h => by simpa [saysB] using h
  · exact (says_12 x a' b A B c d w hr hc').mono fun _ _ h => by simpa [saysB] using h
  · exact (says_13 x a' b A B c d w hr hc').mono fun _ _ h => by simpa [saysB] using h
/-! the document's order -/
theorem side_any (a b : Int) (w : World) : Calls Tryd.prog 174 #[.int .i64 a, .int .i64 b] w fun e w' => e = .returned (.int .i64 (intCmp a b)) ∧ w = w' := by
  by_cases h1 : a < b
  · have F := Lib.hid (show intCmp a b = -1 by rw [intCmp, if_pos h1])
    go_enter Tryd.func174, Tryd.ntmps174
    go_wp2
    go_ret
    exact ⟨by rw [F.out]; rfl, rfl⟩
  · by_cases h2 : b < a
    · have F := Lib.hid (show intCmp a b = 1 by rw [intCmp, if_neg h1, if_pos h2])
      go_enter Tryd.func174, Tryd.ntmps174
      go_wp2
      go_ret
      exact ⟨by rw [F.out]; rfl, rfl⟩
    · have F := Lib.hid (show intCmp a b = 0 by rw [intCmp, if_neg h1, if_neg h2])
      go_enter Tryd.func174, Tryd.ntmps174
      go_wp2
      go_ret
      exact ⟨by rw [F.out]; rfl, rfl⟩
theorem bytes_less : ∀ l m : List UInt8, Op.bytesLess l m = decide (bytesCmp l m = -1)
  | [], [] => rfl
  | [], _ :: _ => rfl
  | _ :: _, [] => rfl
  | x :: xs, y :: ys => by
    unfold Op.bytesLess bytesCmp
    rw [bytes_less xs ys]
    by_cases h1 : x < y
    · simp [h1]
    · by_cases h2 : y < x
      · have h3 : ¬ x = y := fun e => by subst e; exact absurd h2 (UInt8.lt_irrefl _)
        simp [h1, h2, h3]
      · have h3 : x = y := UInt8.le_antisymm (UInt8.not_lt.1 h2) (UInt8.not_lt.1 h1)
        simp [h1, h2, h3, UInt8.lt_irrefl]
theorem bytes_any (a b : ByteArray) (w : World) : Calls Tryd.prog 175 #[.string a, .string b] w fun e w' => e = .returned (.int .i64 (bytesCmp a.data.toList b.data.toList)) ∧ w = w' := by
  have hl := bytes_less a.data.toList b.data.toList
  rw [← ByteArray.toList_eq, ← ByteArray.toList_eq] at hl
  rw [← ByteArray.toList_eq, ← ByteArray.toList_eq]
  have hr := (bytes_sides a.toList b.toList).rng
  have he : (a.toList == b.toList) = decide (bytesCmp a.toList b.toList = 0) := by
    rw [Bool.eq_iff_iff, beq_iff_eq, decide_eq_true_eq]
    exact ⟨fun e => by rw [e]; exact bytes_self _, fun e => bytes_eq _ _ e⟩
  generalize bytesCmp a.toList b.toList = x at *
  have key : ∀ p q : Bool, Op.bytesLess a.toList b.toList = p → (a.toList == b.toList) = q → (!(a.toList == b.toList)) = !q := fun p q _ e => by rw [e]
  rcases hr with rfl | rfl | rfl
  · have h1 : Op.bytesLess a.toList b.toList = true := hl
    clear hl he key
    go_enter Tryd.func175, Tryd.ntmps175
    go_wp2
    go_ret
    exact ⟨rfl, rfl⟩
  · have h1 : Op.bytesLess a.toList b.toList = false := hl
    have h2 : (a.toList == b.toList) = true := he
    clear hl he key
    go_enter Tryd.func175, Tryd.ntmps175
    go_wp2
    go_ret
    exact ⟨rfl, rfl⟩
  · have h1 : Op.bytesLess a.toList b.toList = false := hl
    have h2 : (a.toList == b.toList) = false := he
    have h3 : (!(a.toList == b.toList)) = true := key _ _ h1 h2
    clear hl he key
    go_enter Tryd.func175, Tryd.ntmps175
    go_wp2
    go_ret
    exact ⟨rfl, rfl⟩
set_option maxRecDepth 100000 in
set_option maxHeartbeats 2000000 in
theorem order_any (l m : List CellD) (A B : Option Addr) (c1 c2 : Nat) (w : World) (hr : Reads w A l) (hr2 : Reads w B m) (hl : l.length ≤ 1000000000000000) (hm : m.length ≤ 1000000000000000) :
    Calls Tryd.prog 141 #[.slice A l.length c1, .slice B m.length c2] w fun e w' => e = .returned (.int .i64 (termCmp l m)) ∧ Below w.heap.size w w' := by
  have HR := Lib.hid hr
  have HR2 := Lib.hid hr2
  clear hr hr2
  go_enter Tryd.func141, Tryd.ntmps141
  go_wp2_with fail
  go_loopw [5] (fun i wr => ∃ j : Nat, j ≤ l.length ∧ j ≤ m.length ∧ i = .int .i64 j ∧ Below w.heap.size w wr ∧ Hid (termCmp l m = termCmp (l.drop j) (m.drop j))) (fun i wr => l.length - (intOf i).toNat)
  case atStart => exact ⟨0, Nat.zero_le _, Nat.zero_le _, rfl, Below.refl _ _, rfl⟩
  case round =>
    obtain ⟨j, h1, h2, rfl, hB, hH⟩ := hrel
    by_cases hlt : j < l.length
    · by_cases hlt2 : j < m.length
      · obtain ⟨g1, o1, hA, c1'⟩ := HR.out j hlt
        obtain ⟨g2, o2, hBa, c2'⟩ := HR2.out j hlt2
        subst hA hBa
        obtain ⟨d0, d1, d2⟩ := c1'.below hB
        obtain ⟨e0, e1, e2⟩ := c2'.below hB
        have hi1 : (j : Int) < (l.length : Int) := by omega
        have hi2 : (j : Int) < (m.length : Int) := by omega
        have hi0 : (0 : Int) ≤ (j : Int) := Int.natCast_nonneg _
        have hN := Lib.hid (fun e => hH.out.trans (cmp_next hlt hlt2 e))
        have hE := Lib.hid (fun e => hH.out.trans (cmp_here hlt hlt2 e))
        clear c1' c2' hH
        generalize l[j] = x at *
        generalize m[j] = y at *
        have hBB := Lib.hid (below_then (below_then hB (below_one wr (.cells #[.int .i64 x.kind, .int .i64 x.n, .string x.text] 32))) (below_one _ (.cells #[.int .i64 y.kind, .int .i64 y.n, .string y.text] 32)))
        have E0 := fun o => cell_below (below_one wr o) e0
        have E1 := fun o => cell_below (below_one wr o) e1
        have E2 := fun o => cell_below (below_one wr o) e2
        by_cases hk : x.kind = y.kind
        · have kz : intCmp x.kind y.kind = 0 := int_eq.2 hk
          by_cases hn : x.n = y.n
          · have nz : intCmp x.n y.n = 0 := int_eq.2 hn
            have HC := Lib.hid (cell_text hk hn)
            have hcz := Lib.hid (show cellCmp x y = 0 ↔ bytesCmp x.text.data.toList y.text.data.toList = 0 by rw [HC.out])
            clear hk hn
            go_wp2_with fail
            refine (side_any _ _ _).mono ?_
            rintro e w' ⟨rfl, rfl⟩
            rw [kz]
            go_wp2_with fail
            refine (side_any _ _ _).mono ?_
            rintro e w' ⟨rfl, rfl⟩
            rw [nz]
            go_wp2_with fail
            refine (bytes_any _ _ _).mono ?_
            rintro e w' ⟨rfl, rfl⟩
            rw [← HC.out]
            by_cases he : cellCmp x y = 0
            · have hF := Lib.hid (hN.out he)
              rw [he]
              clear he hN hE kz nz
              go_wp2
              go_roundw
              case rel => exact ⟨j + 1, by omega, by omega, by go_num, hBB.out, hF⟩
              case measure => simp [intOf]; omega
            · have hF := Lib.hid (hE.out he)
              have ht : (cellCmp x y != 0) = true := by rw [bne_iff_ne]; exact he
              clear he hN hE kz nz
              go_wp2
              go_ret
              exact ⟨by rw [hF.out]; rfl, hBB.out⟩
          · have nz : (intCmp x.n y.n == 0) = false := beq_eq_false_iff_ne.2 (fun e => hn (int_eq.1 e))
            have nz2 : (intCmp x.n y.n != 0) = true := by rw [bne_iff_ne]; exact fun e => hn (int_eq.1 e)
            have HC := Lib.hid (cell_n hk hn)
            have hF := Lib.hid (hE.out (by rw [HC.out]; exact fun e => hn (int_eq.1 e)))
            clear hk hn
            go_wp2_with fail
            refine (side_any _ _ _).mono ?_
            rintro e w' ⟨rfl, rfl⟩
            rw [kz]
            go_wp2_with fail
            refine (side_any _ _ _).mono ?_
            rintro e w' ⟨rfl, rfl⟩
            clear hN hE kz
            go_wp2
            go_ret
            exact ⟨by rw [hF.out, HC.out]; rfl, hBB.out⟩
        · have kz : (intCmp x.kind y.kind == 0) = false := beq_eq_false_iff_ne.2 (fun e => hk (int_eq.1 e))
          have kz2 : (intCmp x.kind y.kind != 0) = true := by rw [bne_iff_ne]; exact fun e => hk (int_eq.1 e)
          have HC := Lib.hid (cell_kind hk)
          have hF := Lib.hid (hE.out (by rw [HC.out]; exact fun e => hk (int_eq.1 e)))
          go_wp2_with fail
          refine (side_any _ _ _).mono ?_
          rintro e w' ⟨rfl, rfl⟩
          clear hN hE hk
          go_wp2
          go_ret
          exact ⟨by rw [hF.out, HC.out]; rfl, hBB.out⟩
      · have hF := Lib.hid (hH.out.trans (cmp_end (.inr (Nat.le_of_not_lt hlt2))))
        clear hH
        go_wp2
        go_ret
        exact ⟨by rw [hF.out]; rfl, hB⟩
    · have hF := Lib.hid (hH.out.trans (cmp_end (.inl (Nat.le_of_not_lt hlt))))
      clear hH
      go_wp2
      go_ret
      exact ⟨by rw [hF.out]; rfl, hB⟩
end Go.Proofs.YtefpolgflimlgaaDoor.Tm
/- Values of operands, of both texts; the document's Says. -/
namespace Go.Proofs.YtefpolgflimlgaaDoor.Tm
open Go.RowKit
set_option linter.unusedVariables false
set_option linter.unusedSimpArgs false

/-- A call answers a slice that reads as a term. -/
def IsSl (w : World) (r : List CellD) (e : Ending) (w' : World) : Prop := ∃ A c, e = .returned (.slice A r.length c) ∧ r.length ≤ c ∧ Reads w' A r ∧ Below w.heap.size w w'
theorem IsSl.of_term {w w1 : World} {r : List CellD} {e : Ending} {w' : World} (hB : Below w.heap.size w w1) (h : IsTerm w1 r e w') : IsSl w r e w' := by
  obtain ⟨A, c, he, ho⟩ := h
  exact ⟨A, c, he, ho.cap, ho.reads, below_then hB ho.bel⟩
theorem IsSl.nil_ {w w' : World} (hB : Below w.heap.size w w') : IsSl w [] (.returned (.slice none 0 0)) w' := ⟨none, 0, rfl, Nat.le_refl _, Reads.nil _ _, hB⟩
theorem IsSl.cell {w w1 : World} {x : CellD} (hB : Below w.heap.size w w1) : IsSl w [x] (.returned (.slice (some ⟨w1.heap.size, 0, none⟩) 1 1)) (w1.alloc (.cells #[.int .i64 x.kind, .int .i64 x.n, .string x.text] 32)) :=
  ⟨_, 1, rfl, Nat.le_refl _, reads_new w1 rfl, below_alloc' hB _⟩
theorem IsSl.cell2 {w : World} {o : Obj} {x : CellD} : IsSl w [x] (.returned (.slice (some ⟨w.heap.size + 1, 0, none⟩) 1 1)) ((w.alloc o).alloc (.cells #[.int .i64 x.kind, .int .i64 x.n, .string x.text] 32)) := by
  have h := IsSl.cell (w := w) (w1 := w.alloc o) (x := x) (below_one w o)
  rwa [World.size_alloc] at h
theorem IsSl.eq {w : World} {r r' : List CellD} {e : Ending} {w' : World} (h : IsSl w r e w') (hr : r' = r) : IsSl w r' e w' := by rw [hr]; exact h
theorem regD_out {x : List (List CellD)} {n : Int} (h : (x.length : Int) ≤ n) : regD x n = [] := by
  unfold regD
  split
  · rfl
  · rw [List.getD_eq_getElem?_getD, List.getElem?_eq_none (by omega)]; rfl
theorem regD_in {x : List (List CellD)} {n : Nat} (h : n < x.length) : regD x n = x[n] := by
  unfold regD
  rw [if_neg (by omega), List.getD_eq_getElem?_getD, Int.toNat_natCast, List.getElem?_eq_getElem h]; rfl
theorem valueD1 {a : CellD} {x : List (List CellD)} (h : a.kind = 1) : valueD a x = regD x a.n := by rw [valueD, if_pos h]
theorem valueD3 {a : CellD} {x : List (List CellD)} (h : a.kind = 3) : valueD a x = [intC a.n] := by rw [valueD, if_neg (by omega), if_pos h]
theorem valueD4 {a : CellD} {x : List (List CellD)} (h : a.kind = 4) : valueD a x = [atomC a.text] := by rw [valueD, if_neg (by omega), if_neg (by omega), if_pos h]
theorem valueD5 {a : CellD} {x : List (List CellD)} (h : a.kind = 5) : valueD a x = [nilC] := by rw [valueD, if_neg (by omega), if_neg (by omega), if_neg (by omega), if_pos h]
theorem valueD0 {a : CellD} {x : List (List CellD)} (h1 : a.kind ≠ 1) (h3 : a.kind ≠ 3) (h4 : a.kind ≠ 4) (h5 : a.kind ≠ 5) : valueD a x = [] := by rw [valueD, if_neg h1, if_neg h3, if_neg h4, if_neg h5]
set_option maxHeartbeats 1000000 in
theorem valueM_any (a : CellD) (x : List (List CellD)) (A : Option Addr) (c : Nat) (w : World) (hx : Reads2 w A x) (h : a.kind = 1 → 0 ≤ a.n) (hl : x.length ≤ 1000000000000000) :
    Calls Tryd.prog (valueFn a) #[aggC a, .slice A x.length c] w (IsSl w (valueD a x)) := by
  have HX := Lib.hid hx
  clear hx
  by_cases h1 : a.kind = 1
  · rw [show valueFn a = 214 by rw [valueFn, if_pos h1]]
    have F := Lib.hid (valueD1 (x := x) h1)
    have hB := below_one w (.cells #[.int .i64 a.kind, .int .i64 a.n, .string a.text] 186)
    have h0 := h h1
    obtain ⟨k, t, n⟩ := a
    obtain ⟨m, rfl⟩ : ∃ m : Nat, t = m := ⟨t.toNat, by simp only at h0; omega⟩
    clear h h1 h0
    by_cases hlt : m < x.length
    · obtain ⟨b, o, rfl, Am, cm, q0, q1, q2⟩ := HX.out m hlt
      have F2 := Lib.hid (F.out.trans (regD_in hlt))
      have q0' := cell_below hB q0
      have Q2 := Lib.hid (q2.below hB)
      have hi1 : (m : Int) < (x.length : Int) := by omega
      have hi0 : (0 : Int) ≤ (m : Int) := Int.natCast_nonneg _
      clear F q0 q2
      go_enter Tryd.func214, Tryd.ntmps214
      go_wp2
      go_ret
      exact IsSl.eq ⟨Am, cm, rfl, q1, Q2.out, hB⟩ F2.out
    · have F2 := Lib.hid (F.out.trans (regD_out (by simp; omega)))
      have hge : (x.length : Int) ≤ (m : Int) := by omega
      clear F
      go_enter Tryd.func214, Tryd.ntmps214
      go_wp2
      go_ret
      exact (IsSl.nil_ hB).eq F2.out
  by_cases h3 : a.kind = 3
  · rw [show valueFn a = 216 by rw [valueFn, if_neg h1, if_pos h3]]
    have F := Lib.hid (valueD3 (x := x) h3)
    have hB := below_one w (.cells #[.int .i64 a.kind, .int .i64 a.n, .string a.text] 187)
    clear h h1 h3
    go_enter Tryd.func216, Tryd.ntmps216
    go_wp2_with fail
    refine (int_any _ _).mono ?_
    rintro e w1 ⟨A1, c1, rfl, ho⟩
    go_wp2
    go_ret
    exact (IsSl.of_term hB ⟨A1, c1, rfl, ho⟩).eq F.out
  by_cases h4 : a.kind = 4
  · rw [show valueFn a = 218 by rw [valueFn, if_neg h1, if_neg h3, if_pos h4]]
    have F := Lib.hid (valueD4 (x := x) h4)
    have hB := below_one w (.cells #[.int .i64 a.kind, .int .i64 a.n, .string a.text] 188)
    clear h h1 h3 h4
    go_enter Tryd.func218, Tryd.ntmps218
    go_wp2_with fail
    refine (atom_any _ _).mono ?_
    rintro e w1 ⟨A1, c1, rfl, ho⟩
    go_wp2
    go_ret
    exact (IsSl.of_term hB ⟨A1, c1, rfl, ho⟩).eq F.out
  by_cases h5 : a.kind = 5
  · rw [show valueFn a = 220 by rw [valueFn, if_neg h1, if_neg h3, if_neg h4, if_pos h5]]
    have F := Lib.hid (valueD5 (x := x) h5)
    have hB := below_one w (.cells #[.int .i64 a.kind, .int .i64 a.n, .string a.text] 189)
    clear h h1 h3 h4 h5
    go_enter Tryd.func220, Tryd.ntmps220
    go_wp2
    go_ret
    exact (IsSl.cell2 (x := nilC)).eq F.out
  · rw [show valueFn a = 222 by rw [valueFn, if_neg h1, if_neg h3, if_neg h4, if_neg h5]]
    have F := Lib.hid (valueD0 (x := x) h1 h3 h4 h5)
    have hB := below_one w (.cells #[.int .i64 a.kind, .int .i64 a.n, .string a.text] 190)
    clear h h1 h3 h4 h5
    go_enter Tryd.func222, Tryd.ntmps222
    go_wp2
    go_ret
    exact (IsSl.nil_ hB).eq F.out
set_option maxHeartbeats 1000000 in
theorem rvalue_any (a : CellD) (x : List (List CellD)) (A : Option Addr) (c : Nat) (w : World) (hx : Reads2 w A x) (hl : x.length ≤ 1000000000000000) :
    Calls Tryd.prog 168 #[aggC a, .slice A x.length c] w (IsSl w (valueD a x)) := by
  have HX := Lib.hid hx
  have hB := below_one w (.cells #[.int .i64 a.kind, .int .i64 a.n, .string a.text] 49)
  clear hx
  by_cases h1 : a.kind = 1
  · have F := Lib.hid (valueD1 (x := x) h1)
    have b1 : (a.kind == 1) = true := by simp [h1]
    clear h1
    by_cases h0 : 0 ≤ a.n
    · obtain ⟨k, t, n⟩ := a
      obtain ⟨m, rfl⟩ : ∃ m : Nat, t = m := ⟨t.toNat, by simp only at h0; omega⟩
      clear h0
      by_cases hlt : m < x.length
      · obtain ⟨b, o, rfl, Am, cm, q0, q1, q2⟩ := HX.out m hlt
        have F2 := Lib.hid (F.out.trans (regD_in hlt))
        have q0' := cell_below hB q0
        have Q2 := Lib.hid (q2.below hB)
        have hi1 : (m : Int) < (x.length : Int) := by omega
        have hi0 : (0 : Int) ≤ (m : Int) := Int.natCast_nonneg _
        clear F q0 q2
        go_enter Tryd.func168, Tryd.ntmps168
        go_wp2
        go_ret
        exact IsSl.eq ⟨Am, cm, rfl, q1, Q2.out, hB⟩ F2.out
      · have F2 := Lib.hid (F.out.trans (regD_out (by simp; omega)))
        have hge : (x.length : Int) ≤ (m : Int) := by omega
        clear F
        go_enter Tryd.func168, Tryd.ntmps168
        go_wp2
        go_ret
        exact (IsSl.nil_ hB).eq F2.out
    · have F2 := Lib.hid (F.out.trans (show regD x a.n = [] by rw [regD, if_pos (by omega)]))
      clear F
      go_enter Tryd.func168, Tryd.ntmps168
      go_wp2
      go_ret
      exact (IsSl.nil_ hB).eq F2.out
  have c1 : (a.kind == 1) = false := beq_eq_false_iff_ne.2 h1
  by_cases h3 : a.kind = 3
  · have F := Lib.hid (valueD3 (x := x) h3)
    have b1 : (a.kind == 3) = true := by simp [h3]
    clear h1 h3
    go_enter Tryd.func168, Tryd.ntmps168
    go_wp2
    go_ret
    exact (IsSl.cell2 (x := intC a.n)).eq F.out
  have c3 : (a.kind == 3) = false := beq_eq_false_iff_ne.2 h3
  by_cases h4 : a.kind = 4
  · have F := Lib.hid (valueD4 (x := x) h4)
    have b1 : (a.kind == 4) = true := by simp [h4]
    clear h1 h3 h4
    go_enter Tryd.func168, Tryd.ntmps168
    go_wp2
    go_ret
    exact (IsSl.cell2 (x := atomC a.text)).eq F.out
  have c4 : (a.kind == 4) = false := beq_eq_false_iff_ne.2 h4
  by_cases h5 : a.kind = 5
  · have F := Lib.hid (valueD5 (x := x) h5)
    have b1 : (a.kind == 5) = true := by simp [h5]
    clear h1 h3 h4 h5
    go_enter Tryd.func168, Tryd.ntmps168
    go_wp2
    go_ret
    exact (IsSl.cell2 (x := nilC)).eq F.out
  · have F := Lib.hid (valueD0 (x := x) h1 h3 h4 h5)
    have c5 : (a.kind == 5) = false := beq_eq_false_iff_ne.2 h5
    clear h1 h3 h4 h5
    go_enter Tryd.func168, Tryd.ntmps168
    go_wp2
    go_ret
    exact (IsSl.nil_ hB).eq F.out
end Go.Proofs.YtefpolgflimlgaaDoor.Tm
/- Holds, both texts: holdsE. -/
namespace Go.Proofs.YtefpolgflimlgaaDoor.Tm
open Go.RowKit
set_option linter.unusedVariables false
set_option linter.unusedSimpArgs false

set_option maxRecDepth 100000 in
set_option maxHeartbeats 2000000 in
theorem rsays9_any (op : Int) (x : CellD) (a b : List CellD) (A B : Option Addr) (c d : Nat) (w : World) (hr : Reads w A (x :: a)) (hr2 : Reads w B b) (hl : (x :: a).length ≤ 1000000000000000) (hm : b.length ≤ 1000000000000000) (ho : opB op = true) :
    Calls Tryd.prog 138 #[.int .i64 op, .slice A (x :: a).length c, .slice B b.length d] w fun e w' => e = .returned (.bool (saysB op (x :: a) b)) ∧ Below w.heap.size w w' := by
  have HO := Lib.hid (order_any (x :: a) b A B c d w hr hr2 hl hm)
  obtain ⟨g, o, rfl, hx, _, _⟩ := hr 0 (by simp)
  have hx' : w.cell? ⟨g, o, none⟩ = some (.int .i64 x.kind) := by simpa using hx
  have hln : (x :: a).length = a.length + 1 := rfl
  have hi : (0 : Int) < ((x :: a).length : Int) := by rw [hln]; omega
  clear hr hr2 hx hln
  rcases op_cases ho with rfl | rfl | rfl | rfl | rfl | rfl | rfl | rfl | rfl | rfl | rfl | rfl | rfl
  iterate 6
    · generalize hn : (x :: a).length = n at *
      have HN := Lib.hid hn
      clear hn ho
      go_enter Tryd.func138, Tryd.ntmps138
      go_wp2_with fail
      refine HO.out.mono ?_
      rintro e w1 ⟨rfl, hb⟩
      go_wp2
      all_goals go_ret
      all_goals exact ⟨by simp [saysB, Bool.beq_eq_decide_eq, bne], hb⟩
  iterate 7
    · generalize hn : (x :: a).length = n at *
      have HN := Lib.hid hn
      clear hn ho
      go_enter Tryd.func138, Tryd.ntmps138
      go_wp2
      all_goals go_ret
      all_goals exact ⟨by simp_all [saysB, Bool.beq_eq_decide_eq], Below.refl _ _⟩
/-! what a test says -/
theorem hold_a {x : List (List CellD)} {t : TestD} (h : valueD t.a x = []) : holdB x t = false := by simp [holdB, h]
theorem hold_b {x : List (List CellD)} {t : TestD} (o : t.op ≤ 6) (h : valueD t.b x = []) : holdB x t = false := by simp [holdB, h, o]
theorem hold_s {x : List (List CellD)} {t : TestD} (h : valueD t.a x ≠ []) (k : t.op ≤ 6 → valueD t.b x ≠ []) : holdB x t = saysB t.op (valueD t.a x) (valueD t.b x) := by
  unfold holdB
  have e1 : (valueD t.a x).isEmpty = false := by cases e : valueD t.a x with
    | nil => exact absurd e h
    | cons => rfl
  have e2 : (decide (t.op ≤ 6) && (valueD t.b x).isEmpty) = false := by
    by_cases o : t.op ≤ 6
    · have := k o
      cases e : valueD t.b x with
      | nil => exact absurd e this
      | cons => simp
    · simp [o]
  rw [e1, e2]; rfl
theorem reg_fine {x : List (List CellD)} (h : Fine2 x) (n : Int) : Fine (regD x n) := by
  unfold regD
  split
  · exact Fine.nil
  · rw [List.getD_eq_getElem?_getD]
    cases e : x[n.toNat]? with
    | none => exact Fine.nil
    | some l =>
      obtain ⟨hn, rfl⟩ := List.getElem?_eq_some_iff.1 e
      exact h _ hn
theorem value_fine {x : List (List CellD)} (h : Fine2 x) {a : CellD} (hs : a.text.size ≤ 9223372036854775807) : Fine (valueD a x) := by
  unfold valueD
  split
  · exact reg_fine h _
  · split
    · exact fine_one (by simp [intC, noText, ByteArray.size])
    · split
      · exact fine_one hs
      · split
        · exact fine_one (by simp [nilC, noText, ByteArray.size])
        · exact Fine.nil
theorem regs_ok {x : List (List CellD)} (h : regsE x = 0) : ∀ l ∈ x, l ≠ [] → (rightE l).1 = 0 := by
  induction x with
  | nil => intro l hl; cases hl
  | cons y ys ih =>
    unfold regsE at h
    split at h
    · rename_i hc; exact absurd h hc.2
    · rename_i hc
      intro l hl hne
      rcases List.mem_cons.1 hl with rfl | hl
      · have : 0 < l.length := List.length_pos_iff.2 hne
        exact Decidable.byContradiction fun e => hc ⟨this, e⟩
      · exact ih h l hl hne
theorem nil_right : (rightE [nilC]).1 = 0 := by
  have : cellE nilC = 0 := by simp [cellE, nilC, noText, ByteArray.size]
  rw [right_single this rfl]
theorem value_right {x : List (List CellD)} {a : CellD} (ha : argB a = true) (h : regsE x = 0) (hne : valueD a x ≠ []) : (rightE (valueD a x)).1 = 0 := by
  by_cases h1 : a.kind = 1
  · rw [valueD1 h1] at hne ⊢
    unfold regD at hne ⊢
    split at hne
    · exact absurd rfl hne
    · rename_i hn
      rw [if_neg hn]
      rw [List.getD_eq_getElem?_getD] at hne ⊢
      cases e : x[a.n.toNat]? with
      | none => rw [e] at hne; exact absurd rfl hne
      | some l =>
        rw [e] at hne
        obtain ⟨hn2, rfl⟩ := List.getElem?_eq_some_iff.1 e
        exact regs_ok h _ (List.getElem_mem hn2) hne
  by_cases h3 : a.kind = 3
  · rw [valueD3 h3, right_single (cell_int _) rfl]
  by_cases h4 : a.kind = 4
  · rw [argB4 h4] at ha
    simp at ha
    rw [valueD4 h4, right_single ha.2 rfl]
  by_cases h5 : a.kind = 5
  · rw [valueD5 h5]; exact nil_right
  · rw [valueD0 h1 h3 h4 h5] at hne; exact absurd rfl hne
theorem arg_reg {a : CellD} (ha : argB a = true) : a.kind = 1 → 0 ≤ a.n := by
  intro h
  rw [argB1 h] at ha
  simp at ha
  exact ha.1
theorem test_parts {t : TestD} (h : testB t = true) : opB t.op = true ∧ argB t.a = true ∧ (t.op ≤ 6 → argB t.b = true) ∧ (6 < t.op → t.b = noArg) := by
  unfold testB at h
  simp only [Bool.and_eq_true] at h
  refine ⟨h.1, h.2.1, fun o => ?_, fun o => ?_⟩
  · have := h.2.2; rwa [if_neg (by omega)] at this
  · have := h.2.2; rw [if_pos o, decide_eq_true_eq] at this; exact this
theorem test_b {t : TestD} (h : testB t = true) : t.b.kind = 1 → 0 ≤ t.b.n := by
  obtain ⟨_, _, h3, h4⟩ := test_parts h
  by_cases o : t.op ≤ 6
  · exact arg_reg (h3 o)
  · rw [h4 (by omega)]
    intro e; cases e
theorem all_bad {x : List (List CellD)} {g : List TestD} {j : Nat} (h : j < g.length) (e : holdB x g[j] = false) : g.all (holdB x) = false := by
  rw [List.all_eq_false]
  exact ⟨_, List.getElem_mem h, by simp [e]⟩
theorem all_good {x : List (List CellD)} {g : List TestD} (h : ∀ j (h : j < g.length), holdB x g[j] = true) : g.all (holdB x) = true := by
  rw [List.all_eq_true]
  intro t ht
  obtain ⟨j, hj, rfl⟩ := List.mem_iff_getElem.1 ht
  exact h j hj
theorem guard_ok {g : List TestD} (h : guardE g = 0) : g.length ≤ 16 ∧ ∀ j (h : j < g.length), testB g[j] = true := by
  unfold guardE at h
  split at h
  · cases h
  · split at h
    · rename_i h1 h2
      exact ⟨by omega, fun j hj => List.all_eq_true.1 h2 _ (List.getElem_mem hj)⟩
    · cases h
set_option maxRecDepth 100000 in
set_option maxHeartbeats 4000000 in
theorem rAll_any (g : List TestD) (x : List (List CellD)) (A B : Option Addr) (c d : Nat) (w : World) (hr : TReads w A g) (hf : FineT g) (hx : Reads2 w B x) (hfx : Fine2 x) (hl : x.length ≤ 1000000000000000) (hg : ∀ j (h : j < g.length), opB (g[j]).op = true) :
    Calls Tryd.prog 110 #[.slice A g.length c, .slice B x.length d] w fun e w' => e = .returned (.bool (g.all (holdB x))) ∧ Below w.heap.size w w' := by
  have hgl := hf.len
  have HR := Lib.hid hr
  have HF := Lib.hid hf
  have HX := Lib.hid hx
  have HFX := Lib.hid hfx
  have HG := Lib.hid hg
  clear hr hf hx hfx hg
  go_enter Tryd.func110, Tryd.ntmps110
  go_wp2_with fail
  go_loopw [5] (fun i wr => ∃ j : Nat, j ≤ g.length ∧ i = .int .i64 j ∧ Below w.heap.size w wr ∧ Hid (∀ k (h : k < g.length), k < j → holdB x g[k] = true)) (fun i wr => g.length - (intOf i).toNat)
  case atStart => exact ⟨0, Nat.zero_le _, rfl, Below.refl _ _, fun k _ h => absurd h (Nat.not_lt_zero k)⟩
  case round =>
    obtain ⟨j, hj, rfl, hB, hH⟩ := hrel
    by_cases hlt : j < g.length
    · obtain ⟨b, o, hA, ht⟩ := HR.out j hlt
      subst hA
      obtain ⟨q0, q1, q2, q3, q4, q5, q6⟩ := ht.below hB
      have hfj := HF.out.text j hlt
      have hop := Lib.hid (HG.out j hlt)
      have hi1 : (j : Int) < (g.length : Int) := by omega
      have hi0 : (0 : Int) ≤ (j : Int) := Int.natCast_nonneg _
      have HBad := Lib.hid (show holdB x g[j] = false → g.all (holdB x) = false from all_bad hlt)
      have HN := Lib.hid (show holdB x g[j] = true → ∀ k (h : k < g.length), k < j + 1 → holdB x g[k] = true from fun e k h h1 => by
        rcases Nat.lt_succ_iff_lt_or_eq.1 h1 with h2 | rfl
        · exact hH.out k h h2
        · exact e)
      generalize g[j] = t at *
      clear ht hH
      go_wp2_with fail
      refine (rvalue_any t.a x B d _ (HX.out.below hB) hl).mono ?_
      rintro e w1 ⟨A1, c1, rfl, hc1, r1, hb1⟩
      have p0 := cell_below hb1 q0
      have p4 := cell_below hb1 q4
      have p5 := cell_below hb1 q5
      have p6 := cell_below hb1 q6
      have hB1 := below_then hB hb1
      have R1 := Lib.hid r1
      clear q0 q1 q2 q3 q4 q5 q6 r1
      go_wp2_with fail
      refine (rvalue_any t.b x B d _ (HX.out.below hB1) hl).mono ?_
      rintro e w2 ⟨A2, c2, rfl, hc2, r2, hb2⟩
      have s0 := cell_below hb2 p0
      have hB2 := below_then hB1 hb2
      have R2 := Lib.hid r2
      have R1' := Lib.hid (R1.out.below hb2)
      clear p0 p4 p5 p6 r2 hb1 hb2 R1
      have f1 := (value_fine HFX.out hfj.1).lim
      have f2 := (value_fine HFX.out hfj.2).lim
      have h_a := Lib.hid (fun h => HBad.out (hold_a (x := x) (t := t) h))
      have h_b := Lib.hid (fun o h => HBad.out (hold_b (x := x) (t := t) o h))
      have h_s := Lib.hid (hold_s (x := x) (t := t))
      generalize valueD t.a x = va at *
      generalize valueD t.b x = vb at *
      cases va with
      | nil =>
        have F := Lib.hid (h_a.out rfl)
        have z : (([] : List CellD).length) = 0 := rfl
        rw [z]
        clear h_a h_b h_s
        go_wp2
        go_ret
        exact ⟨by rw [F.out]; rfl, hB2⟩
      | cons y va =>
        have hz : (((y :: va).length : Int) == 0) = false := beq_eq_false_iff_ne.2 (by simp; omega)
        have hz1 : 0 < (y :: va).length := by simp
        have HS := Lib.hid (fun o => rsays9_any t.op y va vb A1 A2 c1 c2 w2 R1'.out R2.out f1 f2 o)
        by_cases o6 : t.op ≤ 6
        · cases vb with
          | nil =>
            have F := Lib.hid (h_b.out o6 rfl)
            have z : (([] : List CellD).length) = 0 := rfl
            rw [z]
            clear h_a h_b h_s HS
            generalize (y :: va).length = n at *
            go_wp2
            go_ret
            exact ⟨by rw [F.out]; rfl, hB2⟩
          | cons z vb =>
            have hzz : (((z :: vb).length : Int) == 0) = false := beq_eq_false_iff_ne.2 (by simp; omega)
            have hzz1 : 0 < (z :: vb).length := by simp
            have F := Lib.hid (h_s.out (by simp) (fun _ => by simp))
            have HS' := Lib.hid (HS.out hop.out)
            clear h_a h_b h_s HS
            generalize (y :: va).length = n at *
            generalize (z :: vb).length = m at *
            go_wp2_with fail
            refine HS'.out.mono ?_
            rintro e w3 ⟨rfl, hb3⟩
            rw [← F.out]
            have hB3 := below_then hB2 hb3
            cases hk : holdB x t
            · have G := Lib.hid (HBad.out hk)
              clear hk
              go_wp2
              go_ret
              exact ⟨by rw [G.out]; rfl, hB3⟩
            · have G := Lib.hid (HN.out hk)
              clear hk
              go_wp2
              go_roundw
              case rel => exact ⟨j + 1, by omega, by go_num, hB3, G⟩
              case measure => simp [intOf]; omega
        · have F := Lib.hid (h_s.out (by simp) (fun o => absurd o o6))
          have HS' := Lib.hid (HS.out hop.out)
          clear h_a h_b h_s HS
          generalize (y :: va).length = n at *
          generalize hm : vb.length = m at *
          have HM := Lib.hid hm
          clear hm
          go_wp2_with fail
          refine HS'.out.mono ?_
          rintro e w3 ⟨rfl, hb3⟩
          rw [← F.out]
          have hB3 := below_then hB2 hb3
          cases hk : holdB x t
          · have G := Lib.hid (HBad.out hk)
            clear hk
            go_wp2
            go_ret
            exact ⟨by rw [G.out]; rfl, hB3⟩
          · have G := Lib.hid (HN.out hk)
            clear hk
            go_wp2
            go_roundw
            case rel => exact ⟨j + 1, by omega, by go_num, hB3, G⟩
            case measure => simp [intOf]; omega
    · have F := Lib.hid (all_good (x := x) (fun k h => hH.out k h (by omega)))
      clear hH
      go_wp2
      go_ret
      exact ⟨by rw [F.out]; rfl, hB⟩
end Go.Proofs.YtefpolgflimlgaaDoor.Tm
/- copied and kept of tests. -/
namespace Go.Proofs.YtefpolgflimlgaaDoor.Tm
open Go.RowKit
set_option linter.unusedVariables false
set_option linter.unusedSimpArgs false

theorem test_info : (Tryd.prog.info? 51).map (fun i => (i.zero, i.size, i.bytes)) = some (some (.agg #[.int .i64 0, .int .i64 0, .int .i64 0, .string ⟨#[]⟩, .int .i64 0, .int .i64 0, .string ⟨#[]⟩]), 7, 72) := by kernel_rfl
def markT7 : TestD := ⟨4321, noArg, noArg⟩
/-- A lent copy of tests. -/
structure TLentAt (w : World) (base : Nat) (A : Option Addr) (cap : Nat) (g : List TestD) : Prop where
  row : w.ownsRow base 51 7 (.slice A (g.length + 1) cap) (g.length + 1) (encT (g ++ [markT7]))
theorem TLentAt.below {w W : World} {base cap : Nat} {A : Option Addr} {g : List TestD} (h : TLentAt w base A cap g) (hB : Below w.heap.size w W) : TLentAt W base A cap g := ⟨row_below h.row hB⟩
theorem TLentAt.reads2 {w : World} {base cap : Nat} {A : Option Addr} {g : List TestD} (h : TLentAt w base A cap g) : TReads w A (g ++ [markT7]) :=
  TReads.of_row (rest := []) (by rw [List.append_nil]; exact h.row)
theorem TLentAt.reads {w : World} {base cap : Nat} {A : Option Addr} {g : List TestD} (h : TLentAt w base A cap g) : TReads w A g := by
  have := h.reads2.take g.length
  simpa using this
theorem Src.of_test {w : World} {g0 : Nat} {t : TestD} (h : TReads w (some ⟨g0, 0, none⟩) [t]) : Src w 7 (some ⟨g0, 0, none⟩) 1 (encT [t]) := Src.of_treads h
set_option maxHeartbeats 1000000 in
theorem copied_any (g : List TestD) (A : Option Addr) (cap : Nat) (w : World) (hr : TReads w A g) (hl : (g.length + 1) * 72 ≤ 140737488355328) :
    Calls Tryd.prog 39 #[.slice A g.length cap] w fun e w' => ∃ A' cap', e = .returned (.slice A' g.length cap') ∧ TLentAt w' w.heap.size A' cap' g ∧ Below w.heap.size w w' := by
  obtain ⟨i0, hi, hz0, hz1, hz2⟩ := info_parts test_info
  have hS := Lib.hid (Src.of_treads hr)
  clear hr
  go_enter Tryd.func39, Tryd.ntmps39
  go_wp2_with (at_builtin; refine wpList_app _ rfl (.tmp 4) (.tmp 5) _ rfl w.heap.size _ i0 _ 7 72 Tryd.underlying42 hi hz0 hz1 hz2 rfl (Nat.zero_lt_succ 6) (.slice none 0 0) 0 [] rfl (row_nil _ _ _ _) A g.length cap (encT g) rfl hS.out ?a1 ?a2 (Nat.le_refl _) ?a3)
  case a1 => simp only [maxLen]; omega
  case a2 => omega
  case a3 =>
    intro v1 w1 hown1 hg1 hat1
    have hB1 : Below w.heap.size w w1 := (Below.refl _ _).grown hg1 (Nat.le_refl _) (by simp [Value.ownBlock])
    have hsz1 := hB1.size
    obtain ⟨A1, c1, rfl⟩ := row_slice hown1
    have HO := Lib.hid hown1
    clear hown1 hat1
    go_wp2_with (at_builtin; refine wpList_app _ rfl (.tmp 7) (.tmp 9) _ rfl w.heap.size _ i0 _ 7 72 Tryd.underlying42 hi hz0 hz1 hz2 rfl (Nat.zero_lt_succ 6) (.slice A1 g.length c1) g.length (encT g) rfl ?b0 (some ⟨w1.heap.size, 0, none⟩) 1 1 (encT [markT7]) rfl ?b1 ?b2 ?b3 ?b4 ?b5)
    case b0 => exact HO.out.alloc _
    case b1 => exact Src.of_test (TReads.new w1 rfl)
    case b2 => simp only [maxLen]; omega
    case b3 => omega
    case b4 => rw [World.size_alloc]; omega
    case b5 =>
      intro v2 w2 hown2 hg2 hat2
      rw [← encT_append] at hown2
      have hB2 : Below w.heap.size w w2 := (below_alloc' hB1 _).grown hg2 (below_alloc' hB1 _).size (fun k hk => row_base HO.out k hk)
      obtain ⟨A2, c2, rfl⟩ := row_slice hown2
      have hcap := row_cap hown2
      have HO2 := Lib.hid hown2
      clear hown2 hat2
      go_wp2
      go_ret
      exact ⟨A2, c2, rfl, ⟨HO2.out⟩, hB2⟩
set_option maxRecDepth 100000 in
set_option maxHeartbeats 2000000 in
theorem kept9_any (g : List TestD) (A B : Option Addr) (base cap cap2 : Nat) (w : World) (h : TLentAt w base A cap g) (hr : TReads w B g) (hl : (g.length + 1) * 72 ≤ 140737488355328) :
    Calls Tryd.prog 44 #[.slice A g.length cap, .slice B g.length cap2] w fun e w' => e = .returned (.bool true) ∧ Below w.heap.size w w' := by
  have hcap := row_cap h.row
  have H := Lib.hid h
  have HR := Lib.hid hr
  clear h hr
  go_enter Tryd.func44, Tryd.ntmps44
  go_wp2_with fail
  go_loopw [5] (fun i wr => ∃ k : Nat, k ≤ g.length ∧ i = .int .i64 k ∧ Below w.heap.size w wr) (fun i wr => g.length - (intOf i).toNat)
  case atStart => exact ⟨0, Nat.zero_le _, rfl, Below.refl _ _⟩
  case round =>
    obtain ⟨k, hk, rfl, hB⟩ := hrel
    by_cases hlt : k < g.length
    · obtain ⟨g1, o1, hA, t1⟩ := (H.out.below hB).reads k hlt
      obtain ⟨g2, o2, hBa, t2⟩ := (HR.out.below hB) k hlt
      subst hA hBa
      obtain ⟨d0, d1, d2, d3, d4, d5, d6⟩ := t1
      obtain ⟨e0, e1, e2, e3, e4, e5, e6⟩ := t2
      have hi1 : (k : Int) < (g.length : Int) := by omega
      have hi0 : (0 : Int) ≤ (k : Int) := Int.natCast_nonneg _
      generalize g[k] = t at *
      go_wp2
      go_quiet (fail)
      go_wp2
      go_roundw
      case rel => exact ⟨k + 1, by omega, by go_num, below_drewN hB _⟩
      case measure => simp [intOf]; omega
    · obtain rfl : k = g.length := by omega
      obtain ⟨b, o, rfl, hc0, _, _, _, _, _, _⟩ := (H.out.below hB).reads2 g.length (by simp)
      rw [show (g ++ [markT7])[g.length] = markT7 by simp] at hc0
      have hm : wr.cell? ⟨b, o + g.length * 7, none⟩ = some (.int .i64 4321) := hc0
      have hi0 : (0 : Int) ≤ (g.length : Int) := Int.natCast_nonneg _
      have hi1 : (g.length : Int) + 1 ≤ (cap : Int) := by omega
      clear hc0
      go_wp2
      go_ret
      exact ⟨rfl, hB⟩
end Go.Proofs.YtefpolgflimlgaaDoor.Tm
