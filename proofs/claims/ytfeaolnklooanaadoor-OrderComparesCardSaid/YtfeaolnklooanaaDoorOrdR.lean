/- The reference's Order and Compare. -/
import Derived.Test.YtfeaolnklooanaaDoorOrdP
import Derived.Test.YtfeaolnklooanaaDoorRWrong
import Derived.Laws.Cover1
import Derived.Deep.RegionHeld3
namespace Go.Proofs.YtfeaolnklooanaaDoor.Tm
open Go.RowKit
set_option linter.unusedVariables false
set_option linter.unusedSimpArgs false

theorem rside_any (a b : Int) (w : World) : Calls Tryd.prog 57 #[.int .i64 a, .int .i64 b] w fun e w' => e = .returned (.int .i64 (intCmp a b)) ∧ w' = w := by
  by_cases h1 : a < b
  · have H := Lib.hid (show intCmp a b = -1 by unfold intCmp; rw [if_pos h1])
    go_enter Tryd.func57, Tryd.ntmps57
    go_wp2
    go_ret
    exact ⟨by rw [H.out]; rfl, rfl⟩
  · by_cases h2 : b < a
    · have H := Lib.hid (show intCmp a b = 1 by unfold intCmp; rw [if_neg h1, if_pos h2])
      go_enter Tryd.func57, Tryd.ntmps57
      go_wp2
      go_ret
      exact ⟨by rw [H.out]; rfl, rfl⟩
    · have H := Lib.hid (show intCmp a b = 0 by unfold intCmp; rw [if_neg h1, if_neg h2])
      go_enter Tryd.func57, Tryd.ntmps57
      go_wp2
      go_ret
      exact ⟨by rw [H.out]; rfl, rfl⟩
theorem less_cmp : ∀ a b : List UInt8, Op.bytesLess a b = decide (bytesCmp a b < 0)
  | [], [] => by simp [Op.bytesLess, bytesCmp]
  | [], _ :: _ => by simp [Op.bytesLess, bytesCmp]
  | _ :: _, [] => by simp [Op.bytesLess, bytesCmp]
  | x :: xs, y :: ys => by
    rw [Op.bytesLess, bytesCmp, less_cmp xs ys]
    by_cases h1 : x < y
    · simp [h1]
    · by_cases h2 : y < x
      · have hne : ¬ x = y := fun e => h1 (by rw [e] at h2; exact absurd h2 (UInt8.lt_irrefl y))
        simp [h1, h2, hne]
      · have he : x = y := UInt8.le_antisymm (UInt8.not_lt.1 h2) (UInt8.not_lt.1 h1)
        subst he
        simp [h1]
theorem more_cmp (a b : List UInt8) : (!(Op.bytesLess a b || a == b)) = decide (0 < bytesCmp a b) := by
  rw [less_cmp]
  have hs := bytes_sides a b
  rcases hs.rng with h | h | h
  · rw [h]; simp
  · have := bytes_eq a b h
    subst this
    rw [h]; simp
  · have hne : ¬ a = b := fun e => by subst e; rw [bytes_self] at h; cases h
    rw [h]; simp [hne]
theorem rbytes_any (s t : ByteArray) (w : World) : Calls Tryd.prog 58 #[.string s, .string t] w fun e w' => e = .returned (.int .i64 (bytesCmp s.data.toList t.data.toList)) ∧ w' = w := by
  have e1 := less_cmp s.toList t.toList
  have e2 := more_cmp s.toList t.toList
  have hd : bytesCmp s.toList t.toList = bytesCmp s.data.toList t.data.toList := by
    rw [Lib.toList_data, Lib.toList_data]
  have e3 : (s.toList == t.toList) = decide (bytesCmp s.toList t.toList = 0) := by
    by_cases h : s.toList = t.toList
    · rw [h, bytes_self]; simp
    · have : ¬ bytesCmp s.toList t.toList = 0 := fun e => h (bytes_eq _ _ e)
      simp [h, this]
  rw [hd] at e1 e2 e3
  have hs := (bytes_sides s.data.toList t.data.toList).rng
  generalize bytesCmp s.data.toList t.data.toList = r at *
  rcases hs with rfl | rfl | rfl
  all_goals
    simp only [Int.reduceNeg, Int.reduceLT, decide_true, decide_false, Int.reduceEq] at e1 e2 e3
    clear hd
    go_enter Tryd.func58, Tryd.ntmps58
    go_wp2
    go_ret
    exact ⟨rfl, rfl⟩
set_option maxRecDepth 100000 in
set_option maxHeartbeats 8000000 in
theorem rorder_any (l m : List CellD) (n1 n2 : Nat) (hn1 : l.length = n1) (hn2 : m.length = n2) (A B : Option Addr) (c1 c2 : Nat) (w : World) (hr : Reads w A l) (hr2 : Reads w B m) (hl : n1 ≤ 1000000000000000) (hm : n2 ≤ 1000000000000000) :
    Calls Tryd.prog 47 #[.slice A n1 c1, .slice B n2 c2] w fun e w' => e = .returned (.int .i64 (termCmp l m)) ∧ Below w.heap.size w w' := by
  have HR := Lib.hid hr
  have HR2 := Lib.hid hr2
  have HN1 := Lib.hid hn1
  have HN2 := Lib.hid hn2
  clear hr hr2 hn1 hn2
  go_enter Tryd.func47, Tryd.ntmps47
  go_wp2
  go_loopw [5] (fun iv wr => ∃ j : Nat, j ≤ n1 ∧ j ≤ n2 ∧ iv = .int .i64 j ∧ Hid (termCmp l m = termCmp (l.drop j) (m.drop j)) ∧ Below w.heap.size w wr) (fun iv wr => n1 - (intOf iv).toNat)
  case atStart => exact ⟨0, Nat.zero_le _, Nat.zero_le _, rfl, rfl, Below.refl _ _⟩
  case round =>
    obtain ⟨j, h1, h2, rfl, hH, hB⟩ := hrel
    by_cases hlt : j < n1
    · have hi1 : (j : Int) < (n1 : Int) := by omega
      have hd1 : decide ((j : Int) < (n1 : Int)) = true := decide_eq_true hi1
      by_cases hlt2 : j < n2
      · have hi2 : (j : Int) < (n2 : Int) := by omega
        have hd2 : decide ((j : Int) < (n2 : Int)) = true := decide_eq_true hi2
        have hi0 : (0 : Int) ≤ (j : Int) := by omega
        have k1 : j < l.length := by rw [HN1.out]; exact hlt
        have k2 : j < m.length := by rw [HN2.out]; exact hlt2
        obtain ⟨g1, o1, hA, c1'⟩ := HR.out j k1
        obtain ⟨g2, o2, hBa, c2'⟩ := HR2.out j k2
        subst hA hBa
        obtain ⟨d0, d1, d2⟩ := c1'.below hB
        obtain ⟨e0, e1, e2⟩ := c2'.below hB
        have hN := fun e => Lib.hid (hH.out.trans (cmp_next k1 k2 e))
        have hE := fun e => Lib.hid (hH.out.trans (cmp_here k1 k2 e))
        have w3 : IntKind.i64.wrap ((j : Int) + 1) = (j : Int) + 1 := by rw [IntKind.wrap_i64]; omega
        clear c1' c2' hH
        generalize l[j] = x at *
        generalize m[j] = y at *
        have e0' := cell_below (below_one wr (.cells #[.int .i64 x.kind, .int .i64 x.n, .string x.text] 47)) e0
        have e1' := cell_below (below_one wr (.cells #[.int .i64 x.kind, .int .i64 x.n, .string x.text] 47)) e1
        have e2' := cell_below (below_one wr (.cells #[.int .i64 x.kind, .int .i64 x.n, .string x.text] 47)) e2
        have hBA := Lib.hid (below_alloc' (below_alloc' hB (.cells #[.int .i64 x.kind, .int .i64 x.n, .string x.text] 47)) (.cells #[.int .i64 y.kind, .int .i64 y.n, .string y.text] 47))
        have HCK := Lib.hid (fun h => cell_kind (a := x) (b := y) h)
        have HCN := Lib.hid (fun h h2 => cell_n (a := x) (b := y) h h2)
        have HCT := Lib.hid (fun h h2 => cell_text (a := x) (b := y) h h2)
        have HI1 := Lib.hid (int_eq (a := x.kind) (b := y.kind))
        have HI2 := Lib.hid (int_eq (a := x.n) (b := y.n))
        go_wp2_with fail
        refine (rside_any _ _ _).mono ?_
        rintro e w5 ⟨rfl, rfl⟩
        obtain ⟨r1, hr1⟩ : ∃ r, intCmp x.kind y.kind = r := ⟨_, rfl⟩
        rw [hr1] at HI1 ⊢
        have HR1 := Lib.hid hr1
        clear hr1 d0 d1 d2 e0 e1 e2 e0' e1' e2'
        by_cases hz1 : r1 = 0
        · have z1 : (r1 == 0) = true := by simp [hz1]
          have HKE := Lib.hid (HI1.out.1 hz1)
          subst hz1
          go_wp2_with fail
          refine (rside_any _ _ _).mono ?_
          rintro e w6 ⟨rfl, rfl⟩
          obtain ⟨r2, hr2⟩ : ∃ r, intCmp x.n y.n = r := ⟨_, rfl⟩
          rw [hr2] at HI2 ⊢
          have HR2' := Lib.hid hr2
          clear hr2
          by_cases hz2 : r2 = 0
          · have HCMP := Lib.hid (HCT.out HKE.out (HI2.out.1 hz2))
            subst hz2
            go_wp2_with fail
            refine (rbytes_any _ _ _).mono ?_
            rintro e w7 ⟨rfl, rfl⟩
            rw [← HCMP.out]
            by_cases hz3 : cellCmp x y = 0
            · have z3 : (cellCmp x y != 0) = false := by simp [hz3]
              have HH := hN hz3
              clear hN hE hz3
              go_wp2
              go_roundw
              case rel => exact ⟨j + 1, by omega, by omega, by go_num, HH, hBA.out⟩
              case measure => simp [intOf]; omega
            · have z3 : (cellCmp x y != 0) = true := by rw [bne_iff_ne]; exact hz3
              have HH := hE hz3
              clear hN hE hz3
              go_wp2
              go_ret
              exact ⟨by rw [HH.out]; rfl, hBA.out⟩
          · have hnn : x.n ≠ y.n := fun e => hz2 (HI2.out.2 e)
            have HCMP := Lib.hid ((HCN.out HKE.out hnn).trans HR2'.out)
            have z2 : (r2 == 0) = false := beq_eq_false_iff_ne.2 hz2
            have z3 : (r2 != 0) = true := by rw [bne_iff_ne]; exact hz2
            have HH := Lib.hid ((hE (by rw [HCMP.out]; exact hz2)).out.trans HCMP.out)
            clear hN hE hz2 hnn
            go_wp2
            go_ret
            exact ⟨by rw [HH.out]; rfl, hBA.out⟩
        · have hkn : x.kind ≠ y.kind := fun e => hz1 (HI1.out.2 e)
          have HCMP := Lib.hid ((HCK.out hkn).trans HR1.out)
          have z1 : (r1 == 0) = false := beq_eq_false_iff_ne.2 hz1
          have z3 : (r1 != 0) = true := by rw [bne_iff_ne]; exact hz1
          have HH := Lib.hid ((hE (by rw [HCMP.out]; exact hz1)).out.trans HCMP.out)
          clear hN hE hz1 hkn
          go_wp2
          go_ret
          exact ⟨by rw [HH.out]; rfl, hBA.out⟩
      · have hd2 : decide ((j : Int) < (n2 : Int)) = false := decide_eq_false (by omega)
        have hi2 : ¬ (j : Int) < (n2 : Int) := by omega
        have HH := Lib.hid (hH.out.trans (cmp_end (.inr (by rw [HN2.out]; omega))))
        clear hH
        go_wp2
        go_ret
        exact ⟨by rw [HH.out]; rfl, hB⟩
    · have hd1 : decide ((j : Int) < (n1 : Int)) = false := decide_eq_false (by omega)
      have hi1 : ¬ (j : Int) < (n1 : Int) := by omega
      have HH := Lib.hid (hH.out.trans (cmp_end (.inl (by rw [HN1.out]; omega))))
      clear hH
      go_wp2
      go_ret
      exact ⟨by rw [HH.out]; rfl, hB⟩
set_option maxRecDepth 100000 in
set_option maxHeartbeats 8000000 in
theorem rcompare_any (l m : List CellD) (A B : Option Addr) (c d : Nat) (w : World) (hr : Reads w A l) (hr2 : Reads w B m) (hf : Fine l) (hf2 : Fine m) :
    Calls Tryd.prog 28 #[.slice A l.length c, .slice B m.length d] w fun e w' => e = .returned (.tuple #[.int .i64 (compareE l m).1, .int .i64 (compareE l m).2]) ∧ Below w.heap.size w w' := by
  have HR := Lib.hid hr
  have HR2 := Lib.hid hr2
  have HRR := Lib.hid (rright_any l A c w hr hf.text hf.lim)
  have HRR2 := Lib.hid (fun w' (hB : Below w.heap.size w w') => rright_any m B d w' (hr2.below hB) hf2.text hf2.lim)
  have HOR := Lib.hid (fun w' (hB : Below w.heap.size w w') => rorder_any l m _ _ rfl rfl A B c d w' (hr.below hB) (hr2.below hB) hf.lim hf2.lim)
  clear hr hr2
  go_enter Tryd.func28, Tryd.ntmps28
  go_wp2_with fail
  refine HRR.out.mono ?_
  rintro e w1 ⟨rfl, hB1⟩
  by_cases h1 : (rightE l).1 = 0
  · have t1 : ((rightE l).1 != 0) = false := by simp [h1]
    have H1 := Lib.hid h1
    clear h1
    go_wp2_with fail
    refine (HRR2.out _ hB1).mono ?_
    rintro e w2 ⟨rfl, hb2⟩
    have hB2 := below_then hB1 hb2
    by_cases h2 : (rightE m).1 = 0
    · have t2 : ((rightE m).1 != 0) = false := by simp [h2]
      have F := Lib.hid (compare_ok H1.out h2)
      clear h2 hb2
      go_wp2_with fail
      refine (HOR.out _ hB2).mono ?_
      rintro e w3 ⟨rfl, hb3⟩
      have hB3 := below_then hB2 hb3
      clear hb3
      go_wp2
      go_ret2
      rw [F.out]
      exact ⟨rfl, hB3⟩
    · have t2 : ((rightE m).1 != 0) = true := by rw [bne_iff_ne]; exact h2
      have F := Lib.hid (show compareE l m = (0, (rightE m).1) by
        have hw : wrongE [l, m] = (rightE m).1 := by
          rw [wrongE, if_neg (by simp [H1.out]), wrongE, if_pos h2]
        unfold compareE
        rw [hw, if_pos h2])
      clear h2 hb2
      go_wp2
      go_ret2
      rw [F.out]
      exact ⟨rfl, hB2⟩
  · have t1 : ((rightE l).1 != 0) = true := by rw [bne_iff_ne]; exact h1
    have F := Lib.hid (show compareE l m = (0, (rightE l).1) by
      have hw : wrongE [l, m] = (rightE l).1 := by rw [wrongE, if_pos h1]
      unfold compareE
      rw [hw, if_pos h1])
    clear h1
    go_wp2
    go_ret2
    rw [F.out]
    exact ⟨rfl, hB1⟩
end Go.Proofs.YtfeaolnklooanaaDoor.Tm
