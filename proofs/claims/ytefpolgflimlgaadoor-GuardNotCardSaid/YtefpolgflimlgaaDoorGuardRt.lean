/- guard.right and Right: can a test, a guard be? -/
import Derived.Test.YtefpolgflimlgaaDoorGuardOf
import Derived.Deep.RegionHeld3
namespace Go.Proofs.YtefpolgflimlgaaDoor.Tm
open Go.RowKit
set_option linter.unusedVariables false
set_option linter.unusedSimpArgs false

abbrev aggT (t : TestD) : Value := .agg #[.int .i64 t.op, .int .i64 t.a.kind, .int .i64 t.a.n, .string t.a.text, .int .i64 t.b.kind, .int .i64 t.b.n, .string t.b.text]
theorem method_right (a : CellD) (w : World) : (method 340 (opTy a) (aggC a) "parley/guard.right").run Tryd.prog w = .ok (rightFn a, aggC a) w := by
  unfold opTy rightFn
  by_cases h1 : a.kind = 1
  · rw [if_pos h1, if_pos h1]; kernel_rfl
  rw [if_neg h1, if_neg h1]
  by_cases h3 : a.kind = 3
  · rw [if_pos h3, if_pos h3]; kernel_rfl
  rw [if_neg h3, if_neg h3]
  by_cases h4 : a.kind = 4
  · rw [if_pos h4, if_pos h4]; kernel_rfl
  rw [if_neg h4, if_neg h4]
  by_cases h5 : a.kind = 5
  · rw [if_pos h5, if_pos h5]; kernel_rfl
  rw [if_neg h5, if_neg h5]; kernel_rfl
theorem enter_right (a : CellD) (args : Array Value) (w : World) : (callFunc (rightFn a) args).run Tryd.prog w = .ok (.enter (rightFn a) args) w := by
  unfold rightFn
  by_cases h1 : a.kind = 1
  · rw [if_pos h1]; kernel_rfl
  rw [if_neg h1]
  by_cases h3 : a.kind = 3
  · rw [if_pos h3]; kernel_rfl
  rw [if_neg h3]
  by_cases h4 : a.kind = 4
  · rw [if_pos h4]; kernel_rfl
  rw [if_neg h4]
  by_cases h5 : a.kind = 5
  · rw [if_pos h5]; kernel_rfl
  rw [if_neg h5]; kernel_rfl
theorem is_any (op : Int) (w : World) : Calls Tryd.prog 137 #[.int .i64 op] w fun e w' => e = .returned (.bool (opB op)) ∧ w = w' := by
  by_cases h : 1 ≤ op
  · have F := Lib.hid (show opB op = decide (op ≤ 13) by simp [opB, h])
    go_enter Tryd.func137, Tryd.ntmps137
    go_wp2
    go_ret
    exact ⟨by rw [F.out]; simp, rfl⟩
  · have F := Lib.hid (show opB op = false by simp [opB]; omega)
    go_enter Tryd.func137, Tryd.ntmps137
    go_wp2
    go_ret
    exact ⟨by rw [F.out]; simp, rfl⟩
theorem right_op {t : TestD} (h : opB t.op = false) : testB t = false := by simp [testB, h]
theorem right_a {t : TestD} (h : opB t.op = true) (k : argB t.a = false) : testB t = false := by simp [testB, k]
theorem right_one {t : TestD} (h : opB t.op = true) (k : argB t.a = true) (o : 6 < t.op) : testB t = decide (t.b = noArg) := by simp [testB, h, k, o]
theorem right_two {t : TestD} (h : opB t.op = true) (k : argB t.a = true) (o : ¬ 6 < t.op) : testB t = argB t.b := by simp [testB, h, k, o]
set_option maxHeartbeats 1000000 in
set_option maxRecDepth 100000 in
theorem gright_any (t : TestD) (w : World) (hs : t.a.text.size ≤ 9223372036854775807) (hs2 : t.b.text.size ≤ 9223372036854775807) (hT : Tabs w) : Calls Tryd.prog 111 #[aggT t] w fun e w' => e = .returned (.bool (testB t)) ∧ Below w.heap.size w w' := by
  have HT := Lib.hid hT
  clear hT
  have hB := below_one w (.cells #[.int .i64 t.op, .int .i64 t.a.kind, .int .i64 t.a.n, .string t.a.text, .int .i64 t.b.kind, .int .i64 t.b.n, .string t.b.text] 51)
  cases ho : opB t.op
  · have F := Lib.hid (right_op ho)
    go_enter Tryd.func111, Tryd.ntmps111
    go_wp2_with fail
    refine (is_any t.op _).mono ?_
    rintro e w1 ⟨rfl, rfl⟩
    rw [ho]
    clear ho
    go_wp2
    go_ret
    exact ⟨by rw [F.out]; rfl, hB⟩
  · go_enter Tryd.func111, Tryd.ntmps111
    go_wp2_with fail
    refine (is_any t.op _).mono ?_
    rintro e w1 ⟨rfl, rfl⟩
    rw [ho]
    have HO := Lib.hid ho
    clear ho
    go_wp2_with fail
    refine (of_any t.a _).mono ?_
    rintro e w1 ⟨rfl, hb1⟩
    have hm := method_right t.a
    have hin := enter_right t.a
    have hR := Lib.hid (rightM_any t.a w1 hs (Utf8Tabs_below (Utf8Tabs_below HT.out hB) hb1))
    have f0 := cell_below hb1 (a := ⟨w.heap.size, 0, none⟩) (v := .int .i64 t.op) (by go_cell)
    have f4 := cell_below hb1 (a := ⟨w.heap.size, 4, none⟩) (v := .int .i64 t.b.kind) (by go_cell)
    have f5 := cell_below hb1 (a := ⟨w.heap.size, 5, none⟩) (v := .int .i64 t.b.n) (by go_cell)
    have f6 := cell_below hb1 (a := ⟨w.heap.size, 6, none⟩) (v := .string t.b.text) (by go_cell)
    have hB1 := below_then hB hb1
    clear hb1 hB
    generalize opTy t.a = T at *
    generalize rightFn t.a = F at *
    go_wp2_with fail
    refine hR.out.mono ?_
    rintro e w2 ⟨rfl, hb2⟩
    have g0 := cell_below hb2 f0
    have g4 := cell_below hb2 f4
    have g5 := cell_below hb2 f5
    have g6 := cell_below hb2 f6
    have hB2 := below_then hB1 hb2
    clear hb2 hB1 f0 f4 f5 f6 hm hin hR
    cases hk : argB t.a
    · have W := Lib.hid (right_a HO.out hk)
      clear hk
      go_wp2
      go_ret
      exact ⟨by rw [W.out]; rfl, hB2⟩
    · by_cases o : 6 < t.op
      · have W := Lib.hid (right_one HO.out hk o)
        clear hk
        by_cases hb0 : t.b = noArg
        · have W2 := Lib.hid (W.out.trans (decide_eq_true hb0))
          have k4 : w2.cell? ⟨w.heap.size, 4, none⟩ = some (.int .i64 0) := by rw [g4, hb0]; rfl
          have k5 : w2.cell? ⟨w.heap.size, 5, none⟩ = some (.int .i64 0) := by rw [g5, hb0]; rfl
          have k6 : w2.cell? ⟨w.heap.size, 6, none⟩ = some (.string ⟨#[]⟩) := by rw [g6, hb0]; rfl
          clear W hb0 g4 g5 g6
          go_wp2
          go_ret
          exact ⟨by rw [W2.out]; rfl, hB2⟩
        · have W2 := Lib.hid (W.out.trans (decide_eq_false hb0))
          clear W
          generalize t.b = b at *
          by_cases k0 : b.kind = 0
          · by_cases n0 : b.n = 0
            · have t0 : b.text.toList.isEmpty = false := by
                cases e : b.text.toList.isEmpty
                · rfl
                · exfalso
                  apply hb0
                  obtain ⟨k, n, ⟨⟨x⟩⟩⟩ := b
                  simp only at k0 n0
                  subst k0 n0
                  rw [ByteArray.toList_eq] at e
                  simp at e
                  subst e
                  rfl
              have t1 : (b.text.toList == []) = false := by
                rw [beq_eq_false_iff_ne]; intro e; rw [e] at t0; simp at t0
              rw [k0] at g4
              rw [n0] at g5
              clear hb0 k0 n0
              go_wp2
              go_ret
              exact ⟨by rw [W2.out]; simp [t0], hB2⟩
            · have c0 : (b.n == 0) = false := beq_eq_false_iff_ne.2 n0
              rw [k0] at g4
              clear hb0 k0
              go_wp2
              go_ret
              exact ⟨by rw [W2.out]; simp, hB2⟩
          · have c0 : (b.kind == 0) = false := beq_eq_false_iff_ne.2 k0
            clear hb0
            go_wp2
            go_ret
            exact ⟨by rw [W2.out]; simp, hB2⟩
      · have W := Lib.hid (right_two HO.out hk o)
        clear hk
        go_wp2_with fail
        refine (of_any t.b _).mono ?_
        rintro e w3 ⟨rfl, hb3⟩
        have hm := method_right t.b
        have hin := enter_right t.b
        have hB3 := below_then hB2 hb3
        have hR := Lib.hid (rightM_any t.b w3 hs2 (Utf8Tabs_below HT.out hB3))
        clear hb3 g0 g4 g5 g6
        generalize opTy t.b = T at *
        generalize rightFn t.b = F at *
        go_wp2_with fail
        refine hR.out.mono ?_
        rintro e w4 ⟨rfl, hb4⟩
        go_wp2
        go_ret
        exact ⟨by rw [W.out]; rfl, below_then hB3 hb4⟩
end Go.Proofs.YtefpolgflimlgaaDoor.Tm
