/- Right of a guard: both texts tell guardE. -/
import Derived.Test.YtefpolgflimlgaaDoorGuardRt
import Derived.Test.YtefpolgflimlgaaDoorTests
import Derived.Test.YtefpolgflimlgaaDoorCellR
namespace Go.Proofs.YtefpolgflimlgaaDoor.Tm
open Go.RowKit
set_option linter.unusedVariables false
set_option linter.unusedSimpArgs false

set_option maxHeartbeats 1000000 in
theorem roperand_any (a : CellD) (w : World) (hs : a.text.size ≤ 9223372036854775807) : Calls Tryd.prog 169 #[aggC a] w fun e w' => e = .returned (.bool (argB a)) ∧ Below w.heap.size w w' := by
  have hB := below_one w (.cells #[.int .i64 a.kind, .int .i64 a.n, .string a.text] 49)
  by_cases h1 : a.kind = 1
  · have F := Lib.hid (argB1 h1)
    have b1 : (a.kind == 1) = true := by simp [h1]
    clear h1
    by_cases n0 : 0 ≤ a.n
    · by_cases n1 : a.n < 16
      · have F2 := Lib.hid (show argB a = a.text.toList.isEmpty by rw [F.out]; simp [n0, n1])
        clear F
        go_enter Tryd.func169, Tryd.ntmps169
        go_wp2
        go_ret
        exact ⟨by rw [F2.out]; simp, hB⟩
      · have F2 := Lib.hid (show argB a = false by rw [F.out]; simp; intros; omega)
        clear F
        go_enter Tryd.func169, Tryd.ntmps169
        go_wp2
        go_ret
        exact ⟨by rw [F2.out]; simp, hB⟩
    · have F2 := Lib.hid (show argB a = false by rw [F.out]; simp; intros; omega)
      clear F
      go_enter Tryd.func169, Tryd.ntmps169
      go_wp2
      go_ret
      exact ⟨by rw [F2.out]; simp, hB⟩
  have c1 : (a.kind == 1) = false := beq_eq_false_iff_ne.2 h1
  by_cases h3 : a.kind = 3
  · have F := Lib.hid (argB3 h3)
    have b1 : (a.kind == 3) = true := by simp [h3]
    clear h1 h3
    go_enter Tryd.func169, Tryd.ntmps169
    go_wp2
    go_ret
    exact ⟨by rw [F.out]; simp, hB⟩
  have c3 : (a.kind == 3) = false := beq_eq_false_iff_ne.2 h3
  by_cases h4 : a.kind = 4
  · have F := Lib.hid (argB4 h4)
    have b1 : (a.kind == 4) = true := by simp [h4]
    clear h1 h3 h4
    by_cases n0 : a.n = 0
    · have hn : (a.n == 0) = true := by simp [n0]
      have F2 := Lib.hid (show argB a = decide (cellE (atomC a.text) = 0) by rw [F.out]; simp [n0])
      clear F n0
      go_enter Tryd.func169, Tryd.ntmps169
      go_wp2_with fail
      refine (rcell_any (atomC a.text) _ hs).mono ?_
      rintro e w1 ⟨rfl, hb⟩
      go_wp2
      go_ret
      exact ⟨by rw [F2.out]; simp [Bool.beq_eq_decide_eq]; try rfl, below_then hB hb⟩
    · have hn : (a.n == 0) = false := beq_eq_false_iff_ne.2 n0
      have F2 := Lib.hid (show argB a = false by rw [F.out]; simp [n0])
      clear F
      go_enter Tryd.func169, Tryd.ntmps169
      go_wp2
      go_ret
      exact ⟨by rw [F2.out]; simp, hB⟩
  have c4 : (a.kind == 4) = false := beq_eq_false_iff_ne.2 h4
  by_cases h5 : a.kind = 5
  · have F := Lib.hid (argB5 h5)
    have b1 : (a.kind == 5) = true := by simp [h5]
    clear h1 h3 h4 h5
    by_cases n0 : a.n = 0
    · have hn : (a.n == 0) = true := by simp [n0]
      have F2 := Lib.hid (show argB a = a.text.toList.isEmpty by rw [F.out]; simp [n0])
      clear F n0
      go_enter Tryd.func169, Tryd.ntmps169
      go_wp2
      go_ret
      exact ⟨by rw [F2.out]; simp, hB⟩
    · have hn : (a.n == 0) = false := beq_eq_false_iff_ne.2 n0
      have F2 := Lib.hid (show argB a = false by rw [F.out]; simp [n0])
      clear F
      go_enter Tryd.func169, Tryd.ntmps169
      go_wp2
      go_ret
      exact ⟨by rw [F2.out]; simp, hB⟩
  · have F := Lib.hid (argB0 h1 h3 h4 h5)
    have c5 : (a.kind == 5) = false := beq_eq_false_iff_ne.2 h5
    clear h1 h3 h4 h5
    go_enter Tryd.func169, Tryd.ntmps169
    go_wp2
    go_ret
    exact ⟨by rw [F.out]; simp, hB⟩
theorem arg_none {b : CellD} (hb0 : b ≠ noArg) (k0 : b.kind = 0) (n0 : b.n = 0) : b.text.toList.isEmpty = false := by
  cases e : b.text.toList.isEmpty
  · rfl
  · exfalso
    apply hb0
    obtain ⟨k, n, ⟨⟨x⟩⟩⟩ := b
    simp only at k0 n0
    subst k0 n0
    rw [ByteArray.toList_eq] at e
    simp at e
    subst e
    rfl
set_option maxRecDepth 100000 in
set_option maxHeartbeats 1000000 in
theorem rtest_any (t : TestD) (w : World) (hs : t.a.text.size ≤ 9223372036854775807) (hs2 : t.b.text.size ≤ 9223372036854775807) : Calls Tryd.prog 112 #[aggT t] w fun e w' => e = .returned (.bool (testB t)) ∧ Below w.heap.size w w' := by
  have hB := below_one w (.cells #[.int .i64 t.op, .int .i64 t.a.kind, .int .i64 t.a.n, .string t.a.text, .int .i64 t.b.kind, .int .i64 t.b.n, .string t.b.text] 51)
  by_cases o1 : t.op < 1
  · have F := Lib.hid (right_op (t := t) (by simp [opB]; omega))
    go_enter Tryd.func112, Tryd.ntmps112
    go_wp2
    go_ret
    exact ⟨by rw [F.out]; rfl, hB⟩
  by_cases o2 : 13 < t.op
  · have F := Lib.hid (right_op (t := t) (by simp [opB]; omega))
    go_enter Tryd.func112, Tryd.ntmps112
    go_wp2
    go_ret
    exact ⟨by rw [F.out]; rfl, hB⟩
  have HO := Lib.hid (show opB t.op = true by simp [opB]; omega)
  go_enter Tryd.func112, Tryd.ntmps112
  go_wp2_with fail
  refine (roperand_any t.a _ hs).mono ?_
  rintro e w2 ⟨rfl, hb1⟩
  have g0 := cell_below hb1 (a := ⟨w.heap.size, 0, none⟩) (v := .int .i64 t.op) (by go_cell)
  have g4 := cell_below hb1 (a := ⟨w.heap.size, 4, none⟩) (v := .int .i64 t.b.kind) (by go_cell)
  have g5 := cell_below hb1 (a := ⟨w.heap.size, 5, none⟩) (v := .int .i64 t.b.n) (by go_cell)
  have g6 := cell_below hb1 (a := ⟨w.heap.size, 6, none⟩) (v := .string t.b.text) (by go_cell)
  have hB2 := below_then hB hb1
  clear hb1 hB
  cases hk : argB t.a
  · have W := Lib.hid (right_a HO.out hk)
    clear hk
    go_wp2
    go_ret
    exact ⟨by rw [W.out]; rfl, hB2⟩
  · by_cases o : 6 < t.op
    · have W := Lib.hid (right_one HO.out hk o)
      clear hk
      by_cases hb0 : t.b = noArg
      · have W2 := Lib.hid (W.out.trans (decide_eq_true hb0))
        have k4 : w2.cell? ⟨w.heap.size, 4, none⟩ = some (.int .i64 0) := by rw [g4, hb0]; rfl
        have k5 : w2.cell? ⟨w.heap.size, 5, none⟩ = some (.int .i64 0) := by rw [g5, hb0]; rfl
        have k6 : w2.cell? ⟨w.heap.size, 6, none⟩ = some (.string ⟨#[]⟩) := by rw [g6, hb0]; rfl
        clear W hb0 g4 g5 g6
        go_wp2
        go_ret
        exact ⟨by rw [W2.out]; rfl, hB2⟩
      · have W2 := Lib.hid (W.out.trans (decide_eq_false hb0))
        clear W
        generalize t.b = b at *
        by_cases k0 : b.kind = 0
        · by_cases n0 : b.n = 0
          · have t0 := arg_none hb0 k0 n0
            have t1 : (b.text.toList == []) = false := by
              rw [beq_eq_false_iff_ne]; intro e; rw [e] at t0; simp at t0
            rw [k0] at g4
            rw [n0] at g5
            clear hb0 k0 n0
            go_wp2
            go_ret
            exact ⟨by rw [W2.out]; simp [t0], hB2⟩
          · have c0 : (b.n == 0) = false := beq_eq_false_iff_ne.2 n0
            rw [k0] at g4
            clear hb0 k0
            go_wp2
            go_ret
            exact ⟨by rw [W2.out]; simp, hB2⟩
        · have c0 : (b.kind == 0) = false := beq_eq_false_iff_ne.2 k0
          clear hb0
          go_wp2
          go_ret
          exact ⟨by rw [W2.out]; simp, hB2⟩
    · have W := Lib.hid (right_two HO.out hk o)
      clear hk
      go_wp2_with fail
      refine (roperand_any t.b _ hs2).mono ?_
      rintro e w4 ⟨rfl, hb4⟩
      go_wp2
      go_ret
      exact ⟨by rw [W.out]; rfl, below_then hB2 hb4⟩
/-! the loops -/
theorem guard_bad {g : List TestD} {j : Nat} (hl : g.length ≤ 16) (h : j < g.length) (e : testB g[j] = false) : guardE g = 90 := by
  rw [guardE, if_neg (by omega), if_neg]
  simp only [List.all_eq_true]
  intro k
  have := k g[j] (List.getElem_mem h)
  rw [e] at this; cases this
theorem guard_good {g : List TestD} (hl : g.length ≤ 16) (h : ∀ j (h : j < g.length), testB g[j] = true) : guardE g = 0 := by
  rw [guardE, if_neg (by omega), if_pos]
  simp only [List.all_eq_true]
  intro x hx
  obtain ⟨j, hj, rfl⟩ := List.mem_iff_getElem.1 hx
  exact h j hj
theorem test_new (w : World) (t : TestD) (T : TypeId) : TestAt (w.alloc (.cells #[.int .i64 t.op, .int .i64 t.a.kind, .int .i64 t.a.n, .string t.a.text, .int .i64 t.b.kind, .int .i64 t.b.n, .string t.b.text] T)) w.heap.size 0 t :=
  ⟨by go_cell, by go_cell, by go_cell, by go_cell, by go_cell, by go_cell, by go_cell⟩
set_option maxRecDepth 100000 in
set_option maxHeartbeats 2000000 in
theorem gRight_any (g : List TestD) (A : Option Addr) (c : Nat) (w : World) (hr : TReads w A g) (hf : FineT g) (hT : Tabs w) :
    Calls Tryd.prog 42 #[.slice A g.length c] w fun e w' => e = .returned (.int .i64 (guardE g)) ∧ Below w.heap.size w w' := by
  have hlen := hf.len
  by_cases h0 : 16 < g.length
  · have F := Lib.hid (show guardE g = 4 by rw [guardE, if_pos h0])
    clear hr hf hT
    go_enter Tryd.func42, Tryd.ntmps42
    go_wp2
    go_ret
    exact ⟨by rw [F.out]; rfl, Below.refl _ _⟩
  have hl : g.length ≤ 16 := by omega
  have hb0 : decide (16 < (g.length : Int)) = false := decide_eq_false (by omega)
  have HR := Lib.hid hr
  have HF := Lib.hid hf
  have HT := Lib.hid hT
  clear hr hf hT
  go_enter Tryd.func42, Tryd.ntmps42
  go_wp2_with fail
  go_loopw [10] (fun i wr => ∃ j : Nat, j ≤ g.length ∧ i = .int .i64 j ∧ Below w.heap.size w wr ∧ Hid (∀ k (h : k < g.length), k < j → testB g[k] = true)) (fun i wr => g.length - (intOf i).toNat)
  case atStart => exact ⟨0, Nat.zero_le _, rfl, Below.refl _ _, fun k _ h => absurd h (Nat.not_lt_zero k)⟩
  case round =>
    obtain ⟨j, hj, rfl, hB, hH⟩ := hrel
    by_cases hlt : j < g.length
    · obtain ⟨b, o, hA, ht⟩ := HR.out j hlt
      subst hA
      obtain ⟨q0, q1, q2, q3, q4, q5, q6⟩ := ht.below hB
      have hfj := HF.out.text j hlt
      have hi1 : (j : Int) < (g.length : Int) := by omega
      have hi0 : (0 : Int) ≤ (j : Int) := Int.natCast_nonneg _
      have HG := Lib.hid (show testB g[j] = false → guardE g = 90 from guard_bad hl hlt)
      have HN := Lib.hid (show testB g[j] = true → ∀ k (h : k < g.length), k < j + 1 → testB g[k] = true from fun e k h h1 => by
        rcases Nat.lt_succ_iff_lt_or_eq.1 h1 with h2 | rfl
        · exact hH.out k h h2
        · exact e)
      generalize g[j] = t at *
      clear ht hH
      go_wp2_with fail
      refine (gright_any t _ hfj.1 hfj.2 (Utf8Tabs_below HT.out (below_then hB (below_one _ _)))).mono ?_
      rintro e w1 ⟨rfl, hb⟩
      have hB1 := below_then (below_then hB (below_one _ _)) hb
      clear hb q0 q1 q2 q3 q4 q5 q6 hB
      cases hk : testB t
      · have F := Lib.hid (HG.out hk)
        clear hk
        go_wp2
        go_ret
        exact ⟨by rw [F.out]; rfl, hB1⟩
      · have F := Lib.hid (HN.out hk)
        clear hk
        go_wp2
        go_roundw
        case rel => exact ⟨j + 1, by omega, by go_num, hB1, F⟩
        case measure => simp [intOf]; omega
    · have F := Lib.hid (guard_good hl (fun k h => hH.out k h (by omega)))
      clear hH
      go_wp2
      go_ret
      exact ⟨by rw [F.out]; rfl, hB⟩
set_option maxRecDepth 100000 in
set_option maxHeartbeats 2000000 in
theorem rRight9_any (g : List TestD) (A : Option Addr) (c : Nat) (w : World) (hr : TReads w A g) (hf : FineT g) :
    Calls Tryd.prog 43 #[.slice A g.length c] w fun e w' => e = .returned (.int .i64 (guardE g)) ∧ Below w.heap.size w w' := by
  have hlen := hf.len
  by_cases h0 : 16 < g.length
  · have F := Lib.hid (show guardE g = 4 by rw [guardE, if_pos h0])
    clear hr hf
    go_enter Tryd.func43, Tryd.ntmps43
    go_wp2
    go_ret
    exact ⟨by rw [F.out]; rfl, Below.refl _ _⟩
  have hl : g.length ≤ 16 := by omega
  have hb0 : decide (16 < (g.length : Int)) = false := decide_eq_false (by omega)
  have HR := Lib.hid hr
  have HF := Lib.hid hf
  clear hr hf
  go_enter Tryd.func43, Tryd.ntmps43
  go_wp2_with fail
  go_loopw [3] (fun i wr => ∃ j : Nat, j ≤ g.length ∧ i = .int .i64 j ∧ Below w.heap.size w wr ∧ Hid (∀ k (h : k < g.length), k < j → testB g[k] = true)) (fun i wr => g.length - (intOf i).toNat)
  case atStart => exact ⟨0, Nat.zero_le _, rfl, Below.refl _ _, fun k _ h => absurd h (Nat.not_lt_zero k)⟩
  case round =>
    obtain ⟨j, hj, rfl, hB, hH⟩ := hrel
    by_cases hlt : j < g.length
    · obtain ⟨b, o, hA, ht⟩ := HR.out j hlt
      subst hA
      obtain ⟨q0, q1, q2, q3, q4, q5, q6⟩ := ht.below hB
      have hfj := HF.out.text j hlt
      have hi1 : (j : Int) < (g.length : Int) := by omega
      have hi0 : (0 : Int) ≤ (j : Int) := Int.natCast_nonneg _
      have HG := Lib.hid (show testB g[j] = false → guardE g = 90 from guard_bad hl hlt)
      have HN := Lib.hid (show testB g[j] = true → ∀ k (h : k < g.length), k < j + 1 → testB g[k] = true from fun e k h h1 => by
        rcases Nat.lt_succ_iff_lt_or_eq.1 h1 with h2 | rfl
        · exact hH.out k h h2
        · exact e)
      generalize g[j] = t at *
      clear ht hH
      go_wp2_with fail
      refine (rtest_any t _ hfj.1 hfj.2).mono ?_
      rintro e w1 ⟨rfl, hb⟩
      have hB1 := below_then hB hb
      clear hb q0 q1 q2 q3 q4 q5 q6 hB
      cases hk : testB t
      · have F := Lib.hid (HG.out hk)
        clear hk
        go_wp2
        go_ret
        exact ⟨by rw [F.out]; rfl, hB1⟩
      · have F := Lib.hid (HN.out hk)
        clear hk
        go_wp2
        go_roundw
        case rel => exact ⟨j + 1, by omega, by go_num, hB1, F⟩
        case measure => simp [intOf]; omega
    · have F := Lib.hid (guard_good hl (fun k h => hH.out k h (by omega)))
      clear hH
      go_wp2
      go_ret
      exact ⟨by rw [F.out]; rfl, hB⟩
end Go.Proofs.YtefpolgflimlgaaDoor.Tm
