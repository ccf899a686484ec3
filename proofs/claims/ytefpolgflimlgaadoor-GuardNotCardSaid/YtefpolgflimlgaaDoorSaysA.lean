/- says at any operation; the document's Order and Says; values of operands. -/
import Derived.Test.YtefpolgflimlgaaDoorSays
import Derived.Test.YtefpolgflimlgaaDoorCompare
import Derived.Laws.Strings2
import Derived.WalkLawsBesides
namespace Go.Proofs.YtefpolgflimlgaaDoor.Tm
open Go.RowKit
set_option linter.unusedVariables false
set_option linter.unusedSimpArgs false

theorem op_cases {op : Int} (h : opB op = true) : op = 1 ∨ op = 2 ∨ op = 3 ∨ op = 4 ∨ op = 5 ∨ op = 6 ∨ op = 7 ∨ op = 8 ∨ op = 9 ∨ op = 10 ∨ op = 11 ∨ op = 12 ∨ op = 13 := by
  simp [opB] at h; omega
theorem says_any (op : Int) (a b : List CellD) (A B : Option Addr) (c d : Nat) (w : World) (hr : Reads w A a) (hr2 : Reads w B b) (hf : Fine a) (hf2 : Fine b) (hc : a.length ≤ c) (hd : b.length ≤ d) (hT : Tabs w)
    (ho : opB op = true) (hne : a ≠ []) (hk : op ≤ 6 → (rightE a).1 = 0 ∧ (rightE b).1 = 0) :
    Calls Tryd.prog 109 #[.int .i64 op, agg2 A B a.length b.length c d] w fun e w' => e = .returned (.bool (saysB op a b)) ∧ Below w.heap.size w w' := by
  obtain ⟨x, a', rfl⟩ : ∃ x a', a = x :: a' := by
    cases a with
    | nil => exact absurd rfl hne
    | cons x a' => exact ⟨x, a', rfl⟩
  have hc' : a'.length + 1 ≤ c := hc
  rcases op_cases ho with rfl | rfl | rfl | rfl | rfl | rfl | rfl | rfl | rfl | rfl | rfl | rfl | rfl
  · have k := hk (by omega)
    exact (says_1 _ b A B c d w hr hr2 hf hf2 hc hd hT k.1 k.2).mono fun _ _ h => by simpa [saysB] using h
  · have k := hk (by omega)
    exact (says_2 _ b A B c d w hr hr2 hf hf2 hc hd hT k.1 k.2).mono fun _ _ h => by simpa [saysB] using h
  · have k := hk (by omega)
    exact (says_3 _ b A B c d w hr hr2 hf hf2 hc hd hT k.1 k.2).mono fun _ _ h => by simpa [saysB] using h
  · have k := hk (by omega)
    exact (says_4 _ b A B c d w hr hr2 hf hf2 hc hd hT k.1 k.2).mono fun _ _ h => by simpa [saysB] using h
  · have k := hk (by omega)
    exact (says_5 _ b A B c d w hr hr2 hf hf2 hc hd hT k.1 k.2).mono fun _ _ h => by simpa [saysB] using h
  · have k := hk (by omega)
    exact (says_6 _ b A B c d w hr hr2 hf hf2 hc hd hT k.1 k.2).mono fun _ _ h => by simpa [saysB] using h
  · exact (says_7 x a' b A B c d w hr hc').mono fun _ _ h => by simpa [saysB] using h
  · exact (says_8 x a' b A B c d w hr hc').mono fun _ _ h => by simpa [saysB] using h
  · exact (says_9 x a' b A B c d w hr hc').mono fun _ _ h => by simpa [saysB] using h
  · exact (says_10 x a' b A B c d w hr hc').mono fun _ _ h => by simpa [saysB] using h
  · exact (says_11 x a' b A B c d w hr hc').mono fun _ _ h => by simpa [saysB] using h
  · exact (says_12 x a' b A B c d w hr hc').mono fun _ _ h => by simpa [saysB] using h
  · exact (says_13 x a' b A B c d w hr hc').mono fun _ _ h => by simpa [saysB] using h
/-! the document's order -/
theorem side_any (a b : Int) (w : World) : Calls Tryd.prog 174 #[.int .i64 a, .int .i64 b] w fun e w' => e = .returned (.int .i64 (intCmp a b)) ∧ w = w' := by
  by_cases h1 : a < b
  · have F := Lib.hid (show intCmp a b = -1 by rw [intCmp, if_pos h1])
    go_enter Tryd.func174, Tryd.ntmps174
    go_wp2
    go_ret
    exact ⟨by rw [F.out]; rfl, rfl⟩
  · by_cases h2 : b < a
    · have F := Lib.hid (show intCmp a b = 1 by rw [intCmp, if_neg h1, if_pos h2])
      go_enter Tryd.func174, Tryd.ntmps174
      go_wp2
      go_ret
      exact ⟨by rw [F.out]; rfl, rfl⟩
    · have F := Lib.hid (show intCmp a b = 0 by rw [intCmp, if_neg h1, if_neg h2])
      go_enter Tryd.func174, Tryd.ntmps174
      go_wp2
      go_ret
      exact ⟨by rw [F.out]; rfl, rfl⟩
theorem bytes_less : ∀ l m : List UInt8, Op.bytesLess l m = decide (bytesCmp l m = -1)
  | [], [] => rfl
  | [], _ :: _ => rfl
  | _ :: _, [] => rfl
  | x :: xs, y :: ys => by
    unfold Op.bytesLess bytesCmp
    rw [bytes_less xs ys]
    by_cases h1 : x < y
    · simp [h1]
    · by_cases h2 : y < x
      · have h3 : ¬ x = y := fun e => by subst e; exact absurd h2 (UInt8.lt_irrefl _)
        simp [h1, h2, h3]
      · have h3 : x = y := UInt8.le_antisymm (UInt8.not_lt.1 h2) (UInt8.not_lt.1 h1)
        simp [h1, h2, h3, UInt8.lt_irrefl]
theorem bytes_any (a b : ByteArray) (w : World) : Calls Tryd.prog 175 #[.string a, .string b] w fun e w' => e = .returned (.int .i64 (bytesCmp a.data.toList b.data.toList)) ∧ w = w' := by
  have hl := bytes_less a.data.toList b.data.toList
  rw [← ByteArray.toList_eq, ← ByteArray.toList_eq] at hl
  rw [← ByteArray.toList_eq, ← ByteArray.toList_eq]
  have hr := (bytes_sides a.toList b.toList).rng
  have he : (a.toList == b.toList) = decide (bytesCmp a.toList b.toList = 0) := by
    rw [Bool.eq_iff_iff, beq_iff_eq, decide_eq_true_eq]
    exact ⟨fun e => by rw [e]; exact bytes_self _, fun e => bytes_eq _ _ e⟩
  generalize bytesCmp a.toList b.toList = x at *
  have key : ∀ p q : Bool, Op.bytesLess a.toList b.toList = p → (a.toList == b.toList) = q → (!(a.toList == b.toList)) = !q := fun p q _ e => by rw [e]
  rcases hr with rfl | rfl | rfl
  · have h1 : Op.bytesLess a.toList b.toList = true := hl
    clear hl he key
    go_enter Tryd.func175, Tryd.ntmps175
    go_wp2
    go_ret
    exact ⟨rfl, rfl⟩
  · have h1 : Op.bytesLess a.toList b.toList = false := hl
    have h2 : (a.toList == b.toList) = true := he
    clear hl he key
    go_enter Tryd.func175, Tryd.ntmps175
    go_wp2
    go_ret
    exact ⟨rfl, rfl⟩
  · have h1 : Op.bytesLess a.toList b.toList = false := hl
    have h2 : (a.toList == b.toList) = false := he
    have h3 : (!(a.toList == b.toList)) = true := key _ _ h1 h2
    clear hl he key
    go_enter Tryd.func175, Tryd.ntmps175
    go_wp2
    go_ret
    exact ⟨rfl, rfl⟩
set_option maxRecDepth 100000 in
set_option maxHeartbeats 2000000 in
theorem order_any (l m : List CellD) (A B : Option Addr) (c1 c2 : Nat) (w : World) (hr : Reads w A l) (hr2 : Reads w B m) (hl : l.length ≤ 1000000000000000) (hm : m.length ≤ 1000000000000000) :
    Calls Tryd.prog 141 #[.slice A l.length c1, .slice B m.length c2] w fun e w' => e = .returned (.int .i64 (termCmp l m)) ∧ Below w.heap.size w w' := by
  have HR := Lib.hid hr
  have HR2 := Lib.hid hr2
  clear hr hr2
  go_enter Tryd.func141, Tryd.ntmps141
  go_wp2_with fail
  go_loopw [5] (fun i wr => ∃ j : Nat, j ≤ l.length ∧ j ≤ m.length ∧ i = .int .i64 j ∧ Below w.heap.size w wr ∧ Hid (termCmp l m = termCmp (l.drop j) (m.drop j))) (fun i wr => l.length - (intOf i).toNat)
  case atStart => exact ⟨0, Nat.zero_le _, Nat.zero_le _, rfl, Below.refl _ _, rfl⟩
  case round =>
    obtain ⟨j, h1, h2, rfl, hB, hH⟩ := hrel
    by_cases hlt : j < l.length
    · by_cases hlt2 : j < m.length
      · obtain ⟨g1, o1, hA, c1'⟩ := HR.out j hlt
        obtain ⟨g2, o2, hBa, c2'⟩ := HR2.out j hlt2
        subst hA hBa
        obtain ⟨d0, d1, d2⟩ := c1'.below hB
        obtain ⟨e0, e1, e2⟩ := c2'.below hB
        have hi1 : (j : Int) < (l.length : Int) := by omega
        have hi2 : (j : Int) < (m.length : Int) := by omega
        have hi0 : (0 : Int) ≤ (j : Int) := Int.natCast_nonneg _
        have hN := Lib.hid (fun e => hH.out.trans (cmp_next hlt hlt2 e))
        have hE := Lib.hid (fun e => hH.out.trans (cmp_here hlt hlt2 e))
        clear c1' c2' hH
        generalize l[j] = x at *
        generalize m[j] = y at *
        have hBB := Lib.hid (below_then (below_then hB (below_one wr (.cells #[.int .i64 x.kind, .int .i64 x.n, .string x.text] 32))) (below_one _ (.cells #[.int .i64 y.kind, .int .i64 y.n, .string y.text] 32)))
        have E0 := fun o => cell_below (below_one wr o) e0
        have E1 := fun o => cell_below (below_one wr o) e1
        have E2 := fun o => cell_below (below_one wr o) e2
        by_cases hk : x.kind = y.kind
        · have kz : intCmp x.kind y.kind = 0 := int_eq.2 hk
          by_cases hn : x.n = y.n
          · have nz : intCmp x.n y.n = 0 := int_eq.2 hn
            have HC := Lib.hid (cell_text hk hn)
            have hcz := Lib.hid (show cellCmp x y = 0 ↔ bytesCmp x.text.data.toList y.text.data.toList = 0 by rw [HC.out])
            clear hk hn
            go_wp2_with fail
            refine (side_any _ _ _).mono ?_
            rintro e w' ⟨rfl, rfl⟩
            rw [kz]
            go_wp2_with fail
            refine (side_any _ _ _).mono ?_
            rintro e w' ⟨rfl, rfl⟩
            rw [nz]
            go_wp2_with fail
            refine (bytes_any _ _ _).mono ?_
            rintro e w' ⟨rfl, rfl⟩
            rw [← HC.out]
            by_cases he : cellCmp x y = 0
            · have hF := Lib.hid (hN.out he)
              rw [he]
              clear he hN hE kz nz
              go_wp2
              go_roundw
              case rel => exact ⟨j + 1, by omega, by omega, by go_num, hBB.out, hF⟩
              case measure => simp [intOf]; omega
            · have hF := Lib.hid (hE.out he)
              have ht : (cellCmp x y != 0) = true := by rw [bne_iff_ne]; exact he
              clear he hN hE kz nz
              go_wp2
              go_ret
              exact ⟨by rw [hF.out]; rfl, hBB.out⟩
          · have nz : (intCmp x.n y.n == 0) = false := beq_eq_false_iff_ne.2 (fun e => hn (int_eq.1 e))
            have nz2 : (intCmp x.n y.n != 0) = true := by rw [bne_iff_ne]; exact fun e => hn (int_eq.1 e)
            have HC := Lib.hid (cell_n hk hn)
            have hF := Lib.hid (hE.out (by rw [HC.out]; exact fun e => hn (int_eq.1 e)))
            clear hk hn
            go_wp2_with fail
            refine (side_any _ _ _).mono ?_
            rintro e w' ⟨rfl, rfl⟩
            rw [kz]
            go_wp2_with fail
            refine (side_any _ _ _).mono ?_
            rintro e w' ⟨rfl, rfl⟩
            clear hN hE kz
            go_wp2
            go_ret
            exact ⟨by rw [hF.out, HC.out]; rfl, hBB.out⟩
        · have kz : (intCmp x.kind y.kind == 0) = false := beq_eq_false_iff_ne.2 (fun e => hk (int_eq.1 e))
          have kz2 : (intCmp x.kind y.kind != 0) = true := by rw [bne_iff_ne]; exact fun e => hk (int_eq.1 e)
          have HC := Lib.hid (cell_kind hk)
          have hF := Lib.hid (hE.out (by rw [HC.out]; exact fun e => hk (int_eq.1 e)))
          go_wp2_with fail
          refine (side_any _ _ _).mono ?_
          rintro e w' ⟨rfl, rfl⟩
          clear hN hE hk
          go_wp2
          go_ret
          exact ⟨by rw [hF.out, HC.out]; rfl, hBB.out⟩
      · have hF := Lib.hid (hH.out.trans (cmp_end (.inr (Nat.le_of_not_lt hlt2))))
        clear hH
        go_wp2
        go_ret
        exact ⟨by rw [hF.out]; rfl, hB⟩
    · have hF := Lib.hid (hH.out.trans (cmp_end (.inl (Nat.le_of_not_lt hlt))))
      clear hH
      go_wp2
      go_ret
      exact ⟨by rw [hF.out]; rfl, hB⟩
end Go.Proofs.YtefpolgflimlgaaDoor.Tm
