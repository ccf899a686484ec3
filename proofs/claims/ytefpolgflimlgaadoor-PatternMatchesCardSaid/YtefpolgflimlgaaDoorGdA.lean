/- GdA: several texts in one. -/
import Derived.Test.YtefpolgflimlgaaDoorMid
import Derived.Test.YtefpolgflimlgaaDoorCellW
import Derived.Test.YtefpolgflimlgaaDoorBase
import Derived.Test.YtefpolgflimlgaaDoorCellR
import Derived.Handy
import Derived.WalkSmall
import Derived.RegionTactic
import Derived.Deep.RegionHeld3
/- Operands: of, and what each kind says. -/
namespace Go.Proofs.YtefpolgflimlgaaDoor.Tm
open Go.RowKit
set_option linter.unusedVariables false
set_option linter.unusedSimpArgs false

def opTy (a : CellD) : TypeId := if a.kind = 1 then 186 else if a.kind = 3 then 187 else if a.kind = 4 then 188 else if a.kind = 5 then 189 else 190
def rightFn (a : CellD) : FuncId := if a.kind = 1 then 213 else if a.kind = 3 then 215 else if a.kind = 4 then 217 else if a.kind = 5 then 219 else 221
def valueFn (a : CellD) : FuncId := if a.kind = 1 then 214 else if a.kind = 3 then 216 else if a.kind = 4 then 218 else if a.kind = 5 then 220 else 222
abbrev aggC (a : CellD) : Value := .agg #[.int .i64 a.kind, .int .i64 a.n, .string a.text]
theorem of_any (a : CellD) (w : World) : Calls Tryd.prog 108 #[aggC a] w fun e w' => e = .returned (.iface (opTy a) (aggC a)) ∧ Below w.heap.size w w' := by
  have hB := below_one w (.cells #[.int .i64 a.kind, .int .i64 a.n, .string a.text] 49)
  have E := Lib.hid (show opTy a = _ from rfl)
  by_cases h1 : a.kind = 1
  · have F := Lib.hid (show opTy a = 186 by rw [opTy, if_pos h1])
    have b1 : (a.kind == 1) = true := by simp [h1]
    clear h1
    go_enter Tryd.func108, Tryd.ntmps108
    go_wp2
    go_ret
    exact ⟨by rw [F.out]; rfl, hB⟩
  have c1 : (a.kind == 1) = false := beq_eq_false_iff_ne.2 h1
  by_cases h3 : a.kind = 3
  · have F := Lib.hid (show opTy a = 187 by rw [opTy, if_neg h1, if_pos h3])
    have b1 : (a.kind == 3) = true := by simp [h3]
    clear h1 h3
    go_enter Tryd.func108, Tryd.ntmps108
    go_wp2
    go_ret
    exact ⟨by rw [F.out]; rfl, hB⟩
  have c3 : (a.kind == 3) = false := beq_eq_false_iff_ne.2 h3
  by_cases h4 : a.kind = 4
  · have F := Lib.hid (show opTy a = 188 by rw [opTy, if_neg h1, if_neg h3, if_pos h4])
    have b1 : (a.kind == 4) = true := by simp [h4]
    clear h1 h3 h4
    go_enter Tryd.func108, Tryd.ntmps108
    go_wp2
    go_ret
    exact ⟨by rw [F.out]; rfl, hB⟩
  have c4 : (a.kind == 4) = false := beq_eq_false_iff_ne.2 h4
  by_cases h5 : a.kind = 5
  · have F := Lib.hid (show opTy a = 189 by rw [opTy, if_neg h1, if_neg h3, if_neg h4, if_pos h5])
    have b1 : (a.kind == 5) = true := by simp [h5]
    clear h1 h3 h4 h5
    go_enter Tryd.func108, Tryd.ntmps108
    go_wp2
    go_ret
    exact ⟨by rw [F.out]; rfl, hB⟩
  · have F := Lib.hid (show opTy a = 190 by rw [opTy, if_neg h1, if_neg h3, if_neg h4, if_neg h5])
    have c5 : (a.kind == 5) = false := beq_eq_false_iff_ne.2 h5
    clear h1 h3 h4 h5
    go_enter Tryd.func108, Tryd.ntmps108
    go_wp2
    go_ret
    exact ⟨by rw [F.out]; rfl, hB⟩
theorem argB1 {a : CellD} (h : a.kind = 1) : argB a = (decide (0 ≤ a.n) && (decide (a.n < 16) && a.text.toList.isEmpty)) := by rw [argB, if_pos h]
theorem argB3 {a : CellD} (h : a.kind = 3) : argB a = a.text.toList.isEmpty := by rw [argB, if_neg (by omega), if_pos h]
theorem argB4 {a : CellD} (h : a.kind = 4) : argB a = (decide (a.n = 0) && decide (cellE (atomC a.text) = 0)) := by rw [argB, if_neg (by omega), if_neg (by omega), if_pos h]
theorem argB5 {a : CellD} (h : a.kind = 5) : argB a = (decide (a.n = 0) && a.text.toList.isEmpty) := by rw [argB, if_neg (by omega), if_neg (by omega), if_neg (by omega), if_pos h]
theorem argB0 {a : CellD} (h1 : a.kind ≠ 1) (h3 : a.kind ≠ 3) (h4 : a.kind ≠ 4) (h5 : a.kind ≠ 5) : argB a = false := by rw [argB, if_neg h1, if_neg h3, if_neg h4, if_neg h5]
set_option maxHeartbeats 1000000 in
theorem rightM_any (a : CellD) (w : World) (hs : a.text.size ≤ 9223372036854775807) (hT : Tabs w) : Calls Tryd.prog (rightFn a) #[aggC a] w fun e w' => e = .returned (.bool (argB a)) ∧ Below w.heap.size w w' := by
  have HT := Lib.hid hT
  clear hT
  by_cases h1 : a.kind = 1
  · rw [show rightFn a = 213 by rw [rightFn, if_pos h1]]
    have F := Lib.hid (argB1 h1)
    have hB := below_one w (.cells #[.int .i64 a.kind, .int .i64 a.n, .string a.text] 186)
    clear h1
    by_cases n0 : 0 ≤ a.n
    · by_cases n1 : a.n < 16
      · by_cases t0 : a.text.toList.isEmpty = true
        all_goals
          go_enter Tryd.func213, Tryd.ntmps213
          go_wp2
          go_ret
          exact ⟨by rw [F.out]; simp_all, hB⟩
      · have F2 := Lib.hid (show argB a = false by rw [F.out]; simp; intros; omega)
        clear F
        go_enter Tryd.func213, Tryd.ntmps213
        go_wp2
        go_ret
        exact ⟨by rw [F2.out]; simp, hB⟩
    · have F2 := Lib.hid (show argB a = false by rw [F.out]; simp; intros; omega)
      clear F
      go_enter Tryd.func213, Tryd.ntmps213
      go_wp2
      go_ret
      exact ⟨by rw [F2.out]; simp, hB⟩
  by_cases h3 : a.kind = 3
  · rw [show rightFn a = 215 by rw [rightFn, if_neg h1, if_pos h3]]
    have F := Lib.hid (argB3 h3)
    have hB := below_one w (.cells #[.int .i64 a.kind, .int .i64 a.n, .string a.text] 187)
    clear h1 h3
    go_enter Tryd.func215, Tryd.ntmps215
    go_wp2
    go_ret
    exact ⟨by rw [F.out]; simp, hB⟩
  by_cases h4 : a.kind = 4
  · rw [show rightFn a = 217 by rw [rightFn, if_neg h1, if_neg h3, if_pos h4]]
    have F := Lib.hid (argB4 h4)
    have hB := below_one w (.cells #[.int .i64 a.kind, .int .i64 a.n, .string a.text] 188)
    clear h1 h3 h4
    by_cases n0 : a.n = 0
    · have hn : (a.n == 0) = true := by simp [n0]
      have F2 := Lib.hid (show argB a = decide (cellE (atomC a.text) = 0) by rw [F.out]; simp [n0])
      clear F n0
      go_enter Tryd.func217, Tryd.ntmps217
      go_wp2_with fail
      refine (wcell_any (atomC a.text) _ hs (Utf8Tabs_below HT.out hB)).mono ?_
      rintro e w1 ⟨rfl, hb⟩
      go_wp2
      go_ret
      exact ⟨by rw [F2.out]; simp [Bool.beq_eq_decide_eq]; try rfl, below_then hB hb⟩
    · have hn : (a.n == 0) = false := beq_eq_false_iff_ne.2 n0
      go_enter Tryd.func217, Tryd.ntmps217
      go_wp2
      go_ret
      exact ⟨by rw [F.out]; simp_all, hB⟩
  by_cases h5 : a.kind = 5
  · rw [show rightFn a = 219 by rw [rightFn, if_neg h1, if_neg h3, if_neg h4, if_pos h5]]
    have F := Lib.hid (argB5 h5)
    have hB := below_one w (.cells #[.int .i64 a.kind, .int .i64 a.n, .string a.text] 189)
    clear h1 h3 h4 h5
    by_cases n0 : a.n = 0
    · have hn : (a.n == 0) = true := by simp [n0]
      have F2 := Lib.hid (show argB a = a.text.toList.isEmpty by rw [F.out]; simp [n0])
      clear F n0
      go_enter Tryd.func219, Tryd.ntmps219
      go_wp2
      go_ret
      exact ⟨by rw [F2.out]; simp, hB⟩
    · have hn : (a.n == 0) = false := beq_eq_false_iff_ne.2 n0
      go_enter Tryd.func219, Tryd.ntmps219
      go_wp2
      go_ret
      exact ⟨by rw [F.out]; simp_all, hB⟩
  · rw [show rightFn a = 221 by rw [rightFn, if_neg h1, if_neg h3, if_neg h4, if_neg h5]]
    have F := Lib.hid (argB0 h1 h3 h4 h5)
    have hB := below_one w (.cells #[.int .i64 a.kind, .int .i64 a.n, .string a.text] 190)
    clear h1 h3 h4 h5
    go_enter Tryd.func221, Tryd.ntmps221
    go_wp2
    go_ret
    exact ⟨by rw [F.out]; simp, hB⟩
end Go.Proofs.YtefpolgflimlgaaDoor.Tm
/- guard.right and Right: can a test, a guard be? -/
namespace Go.Proofs.YtefpolgflimlgaaDoor.Tm
open Go.RowKit
set_option linter.unusedVariables false
set_option linter.unusedSimpArgs false

abbrev aggT (t : TestD) : Value := .agg #[.int .i64 t.op, .int .i64 t.a.kind, .int .i64 t.a.n, .string t.a.text, .int .i64 t.b.kind, .int .i64 t.b.n, .string t.b.text]
theorem method_right (a : CellD) (w : World) : (method 340 (opTy a) (aggC a) "parley/guard.right").run Tryd.prog w = .ok (rightFn a, aggC a) w := by
  unfold opTy rightFn
  by_cases h1 : a.kind = 1
  · rw [if_pos h1, if_pos h1]; kernel_rfl
  rw [if_neg h1, if_neg h1]
  by_cases h3 : a.kind = 3
  · rw [if_pos h3, if_pos h3]; kernel_rfl
  rw [if_neg h3, if_neg h3]
  by_cases h4 : a.kind = 4
  · rw [if_pos h4, if_pos h4]; kernel_rfl
  rw [if_neg h4, if_neg h4]
  by_cases h5 : a.kind = 5
  · rw [if_pos h5, if_pos h5]; kernel_rfl
  rw [if_neg h5, if_neg h5]; kernel_rfl
theorem enter_right (a : CellD) (args : Array Value) (w : World) : (callFunc (rightFn a) args).run Tryd.prog w = .ok (.enter (rightFn a) args) w := by
  unfold rightFn
  by_cases h1 : a.kind = 1
  · rw [if_pos h1]; kernel_rfl
  rw [if_neg h1]
  by_cases h3 : a.kind = 3
  · rw [if_pos h3]; kernel_rfl
  rw [if_neg h3]
  by_cases h4 : a.kind = 4
  · rw [if_pos h4]; kernel_rfl
  rw [if_neg h4]
  by_cases h5 : a.kind = 5
  · rw [if_pos h5]; kernel_rfl
  rw [if_neg h5]; kernel_rfl
theorem is_any (op : Int) (w : World) : Calls Tryd.prog 137 #[.int .i64 op] w fun e w' => e = .returned (.bool (opB op)) ∧ w = w' := by
  by_cases h : 1 ≤ op
  · have F := Lib.hid (show opB op = decide (op ≤ 13) by simp [opB, h])
    go_enter Tryd.func137, Tryd.ntmps137
    go_wp2
    go_ret
    exact ⟨by rw [F.out]; simp, rfl⟩
  · have F := Lib.hid (show opB op = false by simp [opB]; omega)
    go_enter Tryd.func137, Tryd.ntmps137
    go_wp2
    go_ret
    exact ⟨by rw [F.out]; simp, rfl⟩
theorem right_op {t : TestD} (h : opB t.op = false) : testB t = false := by simp [testB, h]
theorem right_a {t : TestD} (h : opB t.op = true) (k : argB t.a = false) : testB t = false := by simp [testB, k]
theorem right_one {t : TestD} (h : opB t.op = true) (k : argB t.a = true) (o : 6 < t.op) : testB t = decide (t.b = noArg) := by simp [testB, h, k, o]
theorem right_two {t : TestD} (h : opB t.op = true) (k : argB t.a = true) (o : ¬ 6 < t.op) : testB t = argB t.b := by simp [testB, h, k, o]
set_option maxHeartbeats 1000000 in
set_option maxRecDepth 100000 in
theorem gright_any (t : TestD) (w : World) (hs : t.a.text.size ≤ 9223372036854775807) (hs2 : t.b.text.size ≤ 9223372036854775807) (hT : Tabs w) : Calls Tryd.prog 111 #[aggT t] w fun e w' => e = .returned (.bool (testB t)) ∧ Below w.heap.size w w' := by
  have HT := Lib.hid hT
  clear hT
  have hB := below_one w (.cells #[.int .i64 t.op, .int .i64 t.a.kind, .int .i64 t.a.n, .string t.a.text, .int .i64 t.b.kind, .int .i64 t.b.n, .string t.b.text] 51)
  cases ho : opB t.op
  · have F := Lib.hid (right_op ho)
    go_enter Tryd.func111, Tryd.ntmps111
    go_wp2_with fail
    refine (is_any t.op _).mono ?_
    rintro e w1 ⟨rfl, rfl⟩
    rw [ho]
    clear ho
    go_wp2
    go_ret
    exact ⟨by rw [F.out]; rfl, hB⟩
  · go_enter Tryd.func111, Tryd.ntmps111
    go_wp2_with fail
    refine (is_any t.op _).mono ?_
    rintro e w1 ⟨rfl, rfl⟩
    rw [ho]
    have HO := Lib.hid ho
    clear ho
    go_wp2_with fail
    refine (of_any t.a _).mono ?_
    rintro e w1 ⟨rfl, hb1⟩
    have hm := method_right t.a
    have hin := enter_right t.a
    have hR := Lib.hid (rightM_any t.a w1 hs (Utf8Tabs_below (Utf8Tabs_below HT.out hB) hb1))
    have f0 := cell_below hb1 (a := ⟨w.heap.size, 0, none⟩) (v := .int .i64 t.op) (by go_cell)
    have f4 := cell_below hb1 (a := ⟨w.heap.size, 4, none⟩) (v := .int .i64 t.b.kind) (by go_cell)
    have f5 := cell_below hb1 (a := ⟨w.heap.size, 5, none⟩) (v := .int .i64 t.b.n) (by go_cell)
    have f6 := cell_below hb1 (a := ⟨w.heap.size, 6, none⟩) (v := .string t.b.text) (by go_cell)
    have hB1 := below_then hB hb1
    clear hb1 hB
    generalize opTy t.a = T at *
    generalize rightFn t.a = F at *
    go_wp2_with fail
    refine hR.out.mono ?_
    rintro e w2 ⟨rfl, hb2⟩
    have g0 := cell_below hb2 f0
    have g4 := cell_below hb2 f4
    have g5 := cell_below hb2 f5
    have g6 := cell_below hb2 f6
    have hB2 := below_then hB1 hb2
    clear hb2 hB1 f0 f4 f5 f6 hm hin hR
    cases hk : argB t.a
    · have W := Lib.hid (right_a HO.out hk)
      clear hk
      go_wp2
      go_ret
      exact ⟨by rw [W.out]; rfl, hB2⟩
    · by_cases o : 6 < t.op
      · have W := Lib.hid (right_one HO.out hk o)
        clear hk
        by_cases hb0 : t.b = noArg
        · have W2 := Lib.hid (W.out.trans (decide_eq_true hb0))
          have k4 : w2.cell? ⟨w.heap.size, 4, none⟩ = some (.int .i64 0) := by rw [g4, hb0]; rfl
          have k5 : w2.cell? ⟨w.heap.size, 5, none⟩ = some (.int .i64 0) := by rw [g5, hb0]; rfl
          have k6 : w2.cell? ⟨w.heap.size, 6, none⟩ = some (.string ⟨#[]⟩) := by rw [g6, hb0]; rfl
          clear W hb0 g4 g5 g6
          go_wp2
          go_ret
          exact ⟨by rw [W2.out]; rfl, hB2⟩
        · have W2 := Lib.hid (W.out.trans (decide_eq_false hb0))
          clear W
          generalize t.b = b at *
          by_cases k0 : b.kind = 0
          · by_cases n0 : b.n = 0
            · have t0 : b.text.toList.isEmpty = false := by
                cases e : b.text.toList.isEmpty
                · rfl
                · exfalso
                  apply hb0
                  obtain ⟨k, n, ⟨⟨x⟩⟩⟩ := b
                  simp only at k0 n0
                  subst k0 n0
                  rw [ByteArray.toList_eq] at e
                  simp at e
                  subst e
                  rfl
              have t1 : (b.text.toList == []) = false := by
                rw [beq_eq_false_iff_ne]; intro e; rw [e] at t0; simp at t0
              rw [k0] at g4
              rw [n0] at g5
              clear hb0 k0 n0
              go_wp2
              go_ret
              exact ⟨by rw [W2.out]; simp [t0], hB2⟩
            · have c0 : (b.n == 0) = false := beq_eq_false_iff_ne.2 n0
              rw [k0] at g4
              clear hb0 k0
              go_wp2
              go_ret
              exact ⟨by rw [W2.out]; simp, hB2⟩
          · have c0 : (b.kind == 0) = false := beq_eq_false_iff_ne.2 k0
            clear hb0
            go_wp2
            go_ret
            exact ⟨by rw [W2.out]; simp, hB2⟩
      · have W := Lib.hid (right_two HO.out hk o)
        clear hk
        go_wp2_with fail
        refine (of_any t.b _).mono ?_
        rintro e w3 ⟨rfl, hb3⟩
        have hm := method_right t.b
        have hin := enter_right t.b
        have hB3 := below_then hB2 hb3
        have hR := Lib.hid (rightM_any t.b w3 hs2 (Utf8Tabs_below HT.out hB3))
        clear hb3 g0 g4 g5 g6
        generalize opTy t.b = T at *
        generalize rightFn t.b = F at *
        go_wp2_with fail
        refine hR.out.mono ?_
        rintro e w4 ⟨rfl, hb4⟩
        go_wp2
        go_ret
        exact ⟨by rw [W.out]; rfl, below_then hB3 hb4⟩
end Go.Proofs.YtefpolgflimlgaaDoor.Tm
/- Slices of tests in memory. -/
namespace Go.Proofs.YtefpolgflimlgaaDoor.Tm
open Go.RowKit
set_option linter.unusedVariables false
set_option linter.unusedSimpArgs false

def encT (g : List TestD) : List Value := g.flatMap TestD.vals
theorem encT_length (g : List TestD) : (encT g).length = g.length * 7 := by
  unfold encT
  induction g with
  | nil => rfl
  | cons a l ih => simp [TestD.vals, CellD.vals] at ih ⊢; omega
theorem encT_append (a b : List TestD) : encT (a ++ b) = encT a ++ encT b := by simp [encT]
theorem encT_one (g : List TestD) : ∀ v ∈ encT g, v.oneCell' = true := by
  intro v hv
  simp only [encT, List.mem_flatMap] at hv
  obtain ⟨c, _, hv⟩ := hv
  simp [TestD.vals, CellD.vals] at hv
  rcases hv with rfl | rfl | rfl | rfl | rfl | rfl | rfl <;> rfl
theorem encT_at (g : List TestD) : ∀ j k (h : j < g.length), k < 7 → (encT g)[j * 7 + k]? = (g[j]).vals[k]? := by
  induction g with
  | nil => intro j k h; simp at h
  | cons a l ih =>
    intro j k h hk
    have e : encT (a :: l) = a.vals ++ encT l := rfl
    have hl : a.vals.length = 7 := rfl
    rw [e]
    cases j with
    | zero =>
      rw [Nat.zero_mul, Nat.zero_add, List.getElem?_append_left (by omega)]; rfl
    | succ j =>
      rw [List.getElem?_append_right (by omega), hl, show (j + 1) * 7 + k - 7 = j * 7 + k by omega, List.getElem_cons_succ]
      exact ih j k (by simpa using h) hk
/-- The test at an address. -/
structure TestAt (w : World) (b o : Nat) (t : TestD) : Prop where
  op : w.cell? ⟨b, o, none⟩ = some (.int .i64 t.op)
  ak : w.cell? ⟨b, o + 1, none⟩ = some (.int .i64 t.a.kind)
  an : w.cell? ⟨b, o + 2, none⟩ = some (.int .i64 t.a.n)
  at_ : w.cell? ⟨b, o + 3, none⟩ = some (.string t.a.text)
  bk : w.cell? ⟨b, o + 4, none⟩ = some (.int .i64 t.b.kind)
  bn : w.cell? ⟨b, o + 5, none⟩ = some (.int .i64 t.b.n)
  bt : w.cell? ⟨b, o + 6, none⟩ = some (.string t.b.text)
theorem TestAt.below {w W : World} {b o : Nat} {t : TestD} (h : TestAt w b o t) (hB : Below w.heap.size w W) : TestAt W b o t :=
  ⟨cell_below hB h.op, cell_below hB h.ak, cell_below hB h.an, cell_below hB h.at_, cell_below hB h.bk, cell_below hB h.bn, cell_below hB h.bt⟩
theorem TestAt.flat {w : World} {b o : Nat} {t : TestD} (h : TestAt w b o t) : ∀ k u, k < 7 → t.vals[k]? = some u → w.cell? ⟨b, o + k, none⟩ = some u := by
  intro k u hk e
  have hk' : k = 0 ∨ k = 1 ∨ k = 2 ∨ k = 3 ∨ k = 4 ∨ k = 5 ∨ k = 6 := by omega
  rcases hk' with rfl | rfl | rfl | rfl | rfl | rfl | rfl <;> (simp [TestD.vals, CellD.vals] at e; subst e)
  · exact h.op
  · exact h.ak
  · exact h.an
  · exact h.at_
  · exact h.bk
  · exact h.bn
  · exact h.bt
def TReads (w : World) (A : Option Addr) (g : List TestD) : Prop := ∀ j (h : j < g.length), ∃ b o, A = some ⟨b, o, none⟩ ∧ TestAt w b (o + j * 7) g[j]
theorem TReads.below {w W : World} {A : Option Addr} {g : List TestD} (h : TReads w A g) (hB : Below w.heap.size w W) : TReads W A g := fun j hj => by
  obtain ⟨b, o, e, hc⟩ := h j hj
  exact ⟨b, o, e, hc.below hB⟩
theorem TReads.nil (w : World) (A : Option Addr) : TReads w A [] := fun j hj => absurd hj (Nat.not_lt_zero j)
theorem TReads.take {w : World} {A : Option Addr} {g : List TestD} (h : TReads w A g) (m : Nat) : TReads w A (g.take m) := fun j hj => by
  obtain ⟨b, o, e, hc⟩ := h j (by simp at hj; omega)
  exact ⟨b, o, e, by rw [List.getElem_take]; exact hc⟩
theorem TReads.drew {w : World} {A : Option Addr} {g : List TestD} (h : TReads w A g) : TReads w.drew A g := h.below ((Below.refl _ _).drew)
theorem TReads.of_block {w : World} {g0 o : Nat} {cs : Array Value} {t : TypeId} {g : List TestD} (h : w.heap[g0]? = some (.cells cs t (0, 0))) (hc : ∀ j u, (encT g)[j]? = some u → cs[o + j]? = some u) : TReads w (some ⟨g0, o, none⟩) g := fun j hj => by
  have key : ∀ k u, k < 7 → (g[j]).vals[k]? = some u → w.cell? ⟨g0, o + j * 7 + k, none⟩ = some u := fun k u hk e => by
    have := hc (j * 7 + k) u (by rw [encT_at g j k hj hk]; exact e)
    rw [← Nat.add_assoc] at this
    simp [World.cell?, h, this]
  exact ⟨g0, o, rfl, ⟨key 0 _ (by omega) rfl, key 1 _ (by omega) rfl, key 2 _ (by omega) rfl, key 3 _ (by omega) rfl, key 4 _ (by omega) rfl, key 5 _ (by omega) rfl, key 6 _ (by omega) rfl⟩⟩
theorem TReads.new (w : World) {cs : Array Value} {t : TypeId} {g : List TestD} (hc : cs.toList = encT g) : TReads (w.alloc (.cells cs t)) (some ⟨w.heap.size, 0, none⟩) g :=
  TReads.of_block (heap_new w _) fun j u hu => by rw [Nat.zero_add, ← Array.getElem?_toList, hc]; exact hu
theorem TReads.of_row {w : World} {base cap n : Nat} {A : Option Addr} {e : TypeId} {g : List TestD} {rest : List Value} (h : w.ownsRow base e 7 (.slice A n cap) n (encT g ++ rest)) : TReads w A g := by
  intro j hj
  have hn : 0 < n := by have := h.1; rw [List.length_append, encT_length] at this; omega
  rcases h.2 with ⟨h', h0⟩ | ⟨g0, cap', cur, h', _, hh, _, _, _, ht⟩
  · omega
  · obtain ⟨rfl, rfl⟩ : A = some ⟨g0, 0, none⟩ ∧ cap = cap' := by simpa using h'
    refine TReads.of_block hh (fun k u hu => ?_) j hj
    have hk : k < (encT g).length := (List.getElem?_eq_some_iff.1 hu).1
    have e1 : (cur.toList.take (n * 7))[k]? = some u := by rw [ht, List.getElem?_append_left hk]; exact hu
    rw [List.getElem?_take] at e1
    split at e1
    · rw [Nat.zero_add, ← Array.getElem?_toList]; exact e1
    · cases e1
theorem Src.of_treads {w : World} {A : Option Addr} {g : List TestD} (h : TReads w A g) : Src w 7 A g.length (encT g) := by
  refine ⟨encT_length g, fun e => ?_, fun ad e j u hj => ?_, encT_one g⟩
  · rcases Nat.eq_zero_or_pos g.length with h0 | h0
    · exact h0
    · obtain ⟨b, o, e', _⟩ := h 0 h0
      rw [e] at e'; cases e'
  · have hlt := (List.getElem?_eq_some_iff.1 hj).1
    rw [encT_length] at hlt
    obtain ⟨b, o, e', hc⟩ := h (j / 7) (by omega)
    subst e'
    cases e
    have ea : ((⟨b, o, none⟩ : Addr).add j) = ⟨b, o + j, none⟩ := by unfold Addr.add; split <;> simp_all
    rw [ea]
    have e2 := encT_at g (j / 7) (j % 7) (by omega) (Nat.mod_lt _ (by omega))
    rw [show j / 7 * 7 + j % 7 = j by omega] at e2
    have := hc.flat (j % 7) u (Nat.mod_lt _ (by omega)) (by rw [← e2]; exact hj)
    rw [show o + j / 7 * 7 + j % 7 = o + j by omega] at this
    exact this
/-- What bounds tests that came in. -/
structure FineT (g : List TestD) : Prop where
  len : g.length * 72 ≤ 140737488351232
  text : ∀ j (h : j < g.length), (g[j]).a.text.size ≤ 9223372036854775807 ∧ (g[j]).b.text.size ≤ 9223372036854775807
end Go.Proofs.YtefpolgflimlgaaDoor.Tm
/- Right of a guard: both texts tell guardE. -/
namespace Go.Proofs.YtefpolgflimlgaaDoor.Tm
open Go.RowKit
set_option linter.unusedVariables false
set_option linter.unusedSimpArgs false

set_option maxHeartbeats 1000000 in
theorem roperand_any (a : CellD) (w : World) (hs : a.text.size ≤ 9223372036854775807) : Calls Tryd.prog 169 #[aggC a] w fun e w' => e = .returned (.bool (argB a)) ∧ Below w.heap.size w w' := by
  have hB := below_one w (.cells #[.int .i64 a.kind, .int .i64 a.n, .string a.text] 49)
  by_cases h1 : a.kind = 1
  · have F := Lib.hid (argB1 h1)
    have b1 : (a.kind == 1) = true := by simp [h1]
    clear h1
    by_cases n0 : 0 ≤ a.n
    · by_cases n1 : a.n < 16
      · have F2 := Lib.hid (show argB a = a.text.toList.isEmpty by rw [F.out]; simp [n0, n1])
        clear F
        go_enter Tryd.func169, Tryd.ntmps169
        go_wp2
        go_ret
        exact ⟨by rw [F2.out]; simp, hB⟩
      · have F2 := Lib.hid (show argB a = false by rw [F.out]; simp; intros; omega)
        clear F
        go_enter Tryd.func169, Tryd.ntmps169
        go_wp2
        go_ret
        exact ⟨by rw [F2.out]; simp, hB⟩
    · have F2 := Lib.hid (show argB a = false by rw [F.out]; simp; intros; omega)
      clear F
      go_enter Tryd.func169, Tryd.ntmps169
      go_wp2
      go_ret
      exact ⟨by rw [F2.out]; simp, hB⟩
  have c1 : (a.kind == 1) = false := beq_eq_false_iff_ne.2 h1
  by_cases h3 : a.kind = 3
  · have F := Lib.hid (argB3 h3)
    have b1 : (a.kind == 3) = true := by simp [h3]
    clear h1 h3
    go_enter Tryd.func169, Tryd.ntmps169
    go_wp2
    go_ret
    exact ⟨by rw [F.out]; simp, hB⟩
  have c3 : (a.kind == 3) = false := beq_eq_false_iff_ne.2 h3
  by_cases h4 : a.kind = 4
  · have F := Lib.hid (argB4 h4)
    have b1 : (a.kind == 4) = true := by simp [h4]
    clear h1 h3 h4
    by_cases n0 : a.n = 0
    · have hn : (a.n == 0) = true := by simp [n0]
      have F2 := Lib.hid (show argB a = decide (cellE (atomC a.text) = 0) by rw [F.out]; simp [n0])
      clear F n0
      go_enter Tryd.func169, Tryd.ntmps169
      go_wp2_with fail
      refine (rcell_any (atomC a.text) _ hs).mono ?_
      rintro e w1 ⟨rfl, hb⟩
      go_wp2
      go_ret
      exact ⟨by rw [F2.out]; simp [Bool.beq_eq_decide_eq]; try rfl, below_then hB hb⟩
    · have hn : (a.n == 0) = false := beq_eq_false_iff_ne.2 n0
      have F2 := Lib.hid (show argB a = false by rw [F.out]; simp [n0])
      clear F
      go_enter Tryd.func169, Tryd.ntmps169
      go_wp2
      go_ret
      exact ⟨by rw [F2.out]; simp, hB⟩
  have c4 : (a.kind == 4) = false := beq_eq_false_iff_ne.2 h4
  by_cases h5 : a.kind = 5
  · have F := Lib.hid (argB5 h5)
    have b1 : (a.kind == 5) = true := by simp [h5]
    clear h1 h3 h4 h5
    by_cases n0 : a.n = 0
    · have hn : (a.n == 0) = true := by simp [n0]
      have F2 := Lib.hid (show argB a = a.text.toList.isEmpty by rw [F.out]; simp [n0])
      clear F n0
      go_enter Tryd.func169, Tryd.ntmps169
      go_wp2
      go_ret
      exact ⟨by rw [F2.out]; simp, hB⟩
    · have hn : (a.n == 0) = false := beq_eq_false_iff_ne.2 n0
      have F2 := Lib.hid (show argB a = false by rw [F.out]; simp [n0])
      clear F
      go_enter Tryd.func169, Tryd.ntmps169
      go_wp2
      go_ret
      exact ⟨by rw [F2.out]; simp, hB⟩
  · have F := Lib.hid (argB0 h1 h3 h4 h5)
    have c5 : (a.kind == 5) = false := beq_eq_false_iff_ne.2 h5
    clear h1 h3 h4 h5
    go_enter Tryd.func169, Tryd.ntmps169
    go_wp2
    go_ret
    exact ⟨by rw [F.out]; simp, hB⟩
theorem arg_none {b : CellD} (hb0 : b ≠ noArg) (k0 : b.kind = 0) (n0 : b.n = 0) : b.text.toList.isEmpty = false := by
  cases e : b.text.toList.isEmpty
  · rfl
  · exfalso
    apply hb0
    obtain ⟨k, n, ⟨⟨x⟩⟩⟩ := b
    simp only at k0 n0
    subst k0 n0
    rw [ByteArray.toList_eq] at e
    simp at e
    subst e
    rfl
set_option maxRecDepth 100000 in
set_option maxHeartbeats 1000000 in
theorem rtest_any (t : TestD) (w : World) (hs : t.a.text.size ≤ 9223372036854775807) (hs2 : t.b.text.size ≤ 9223372036854775807) : Calls Tryd.prog 112 #[aggT t] w fun e w' => e = .returned (.bool (testB t)) ∧ Below w.heap.size w w' := by
  have hB := below_one w (.cells #[.int .i64 t.op, .int .i64 t.a.kind, .int .i64 t.a.n, .string t.a.text, .int .i64 t.b.kind, .int .i64 t.b.n, .string t.b.text] 51)
  by_cases o1 : t.op < 1
  · have F := Lib.hid (right_op (t := t) (by simp [opB]; omega))
    go_enter Tryd.func112, Tryd.ntmps112
    go_wp2
    go_ret
    exact ⟨by rw [F.out]; rfl, hB⟩
  by_cases o2 : 13 < t.op
  · have F := Lib.hid (right_op (t := t) (by simp [opB]; omega))
    go_enter Tryd.func112, Tryd.ntmps112
    go_wp2
    go_ret
    exact ⟨by rw [F.out]; rfl, hB⟩
  have HO := Lib.hid (show opB t.op = true by simp [opB]; omega)
  go_enter Tryd.func112, Tryd.ntmps112
  go_wp2_with fail
  refine (roperand_any t.a _ hs).mono ?_
  rintro e w2 ⟨rfl, hb1⟩
  have g0 := cell_below hb1 (a := ⟨w.heap.size, 0, none⟩) (v := .int .i64 t.op) (by go_cell)
  have g4 := cell_below hb1 (a := ⟨w.heap.size, 4, none⟩) (v := .int .i64 t.b.kind) (by go_cell)
  have g5 := cell_below hb1 (a := ⟨w.heap.size, 5, none⟩) (v := .int .i64 t.b.n) (by go_cell)
  have g6 := cell_below hb1 (a := ⟨w.heap.size, 6, none⟩) (v := .string t.b.text) (by go_cell)
  have hB2 := below_then hB hb1
  clear hb1 hB
  cases hk : argB t.a
  · have W := Lib.hid (right_a HO.out hk)
    clear hk
    go_wp2
    go_ret
    exact ⟨by rw [W.out]; rfl, hB2⟩
  · by_cases o : 6 < t.op
    · have W := Lib.hid (right_one HO.out hk o)
      clear hk
      by_cases hb0 : t.b = noArg
      · have W2 := Lib.hid (W.out.trans (decide_eq_true hb0))
        have k4 : w2.cell? ⟨w.heap.size, 4, none⟩ = some (.int .i64 0) := by rw [g4, hb0]; rfl
        have k5 : w2.cell? ⟨w.heap.size, 5, none⟩ = some (.int .i64 0) := by rw [g5, hb0]; rfl
        have k6 : w2.cell? ⟨w.heap.size, 6, none⟩ = some (.string ⟨#[]⟩) := by rw [g6, hb0]; rfl
        clear W hb0 g4 g5 g6
        go_wp2
        go_ret
        exact ⟨by rw [W2.out]; rfl, hB2⟩
      · have W2 := Lib.hid (W.out.trans (decide_eq_false hb0))
        clear W
        generalize t.b = b at *
        by_cases k0 : b.kind = 0
        · by_cases n0 : b.n = 0
          · have t0 := arg_none hb0 k0 n0
            have t1 : (b.text.toList == []) = false := by
              rw [beq_eq_false_iff_ne]; intro e; rw [e] at t0; simp at t0
            rw [k0] at g4
            rw [n0] at g5
            clear hb0 k0 n0
            go_wp2
            go_ret
            exact ⟨by rw [W2.out]; simp [t0], hB2⟩
          · have c0 : (b.n == 0) = false := beq_eq_false_iff_ne.2 n0
            rw [k0] at g4
            clear hb0 k0
            go_wp2
            go_ret
            exact ⟨by rw [W2.out]; simp, hB2⟩
        · have c0 : (b.kind == 0) = false := beq_eq_false_iff_ne.2 k0
          clear hb0
          go_wp2
          go_ret
          exact ⟨by rw [W2.out]; simp, hB2⟩
    · have W := Lib.hid (right_two HO.out hk o)
      clear hk
      go_wp2_with fail
      refine (roperand_any t.b _ hs2).mono ?_
      rintro e w4 ⟨rfl, hb4⟩
      go_wp2
      go_ret
      exact ⟨by rw [W.out]; rfl, below_then hB2 hb4⟩
/-! the loops -/
theorem guard_bad {g : List TestD} {j : Nat} (hl : g.length ≤ 16) (h : j < g.length) (e : testB g[j] = false) : guardE g = 90 := by
  rw [guardE, if_neg (by omega), if_neg]
  simp only [List.all_eq_true]
  intro k
  have := k g[j] (List.getElem_mem h)
  rw [e] at this; cases this
theorem guard_good {g : List TestD} (hl : g.length ≤ 16) (h : ∀ j (h : j < g.length), testB g[j] = true) : guardE g = 0 := by
  rw [guardE, if_neg (by omega), if_pos]
  simp only [List.all_eq_true]
  intro x hx
  obtain ⟨j, hj, rfl⟩ := List.mem_iff_getElem.1 hx
  exact h j hj
theorem test_new (w : World) (t : TestD) (T : TypeId) : TestAt (w.alloc (.cells #[.int .i64 t.op, .int .i64 t.a.kind, .int .i64 t.a.n, .string t.a.text, .int .i64 t.b.kind, .int .i64 t.b.n, .string t.b.text] T)) w.heap.size 0 t :=
  ⟨by go_cell, by go_cell, by go_cell, by go_cell, by go_cell, by go_cell, by go_cell⟩
set_option maxRecDepth 100000 in
set_option maxHeartbeats 2000000 in
theorem gRight_any (g : List TestD) (A : Option Addr) (c : Nat) (w : World) (hr : TReads w A g) (hf : FineT g) (hT : Tabs w) :
    Calls Tryd.prog 42 #[.slice A g.length c] w fun e w' => e = .returned (.int .i64 (guardE g)) ∧ Below w.heap.size w w' := by
  have hlen := hf.len
  by_cases h0 : 16 < g.length
  · have F := Lib.hid (show guardE g = 4 by rw [guardE, if_pos h0])
    clear hr hf hT
    go_enter Tryd.func42, Tryd.ntmps42
    go_wp2
    go_ret
    exact ⟨by rw [F.out]; rfl, Below.refl _ _⟩
  have hl : g.length ≤ 16 := by omega
  have hb0 : decide (16 < (g.length : Int)) = false := decide_eq_false (by omega)
  have HR := Lib.hid hr
  have HF := Lib.hid hf
  have HT := Lib.hid hT
  clear hr hf hT
  go_enter Tryd.func42, Tryd.ntmps42
  go_wp2_with fail
  go_loopw [10] (fun i wr => ∃ j : Nat, j ≤ g.length ∧ i = .int .i64 j ∧ Below w.heap.size w wr ∧ Hid (∀ k (h : k < g.length), k < j → testB g[k] = true)) (fun i wr => g.length - (intOf i).toNat)
  case atStart => exact ⟨0, Nat.zero_le _, rfl, Below.refl _ _, fun k _ h => absurd h (Nat.not_lt_zero k)⟩
  case round =>
    obtain ⟨j, hj, rfl, hB, hH⟩ := hrel
    by_cases hlt : j < g.length
    · obtain ⟨b, o, hA, ht⟩ := HR.out j hlt
      subst hA
      obtain ⟨q0, q1, q2, q3, q4, q5, q6⟩ := ht.below hB
      have hfj := HF.out.text j hlt
      have hi1 : (j : Int) < (g.length : Int) := by omega
      have hi0 : (0 : Int) ≤ (j : Int) := Int.natCast_nonneg _
      have HG := Lib.hid (show testB g[j] = false → guardE g = 90 from guard_bad hl hlt)
      have HN := Lib.hid (show testB g[j] = true → ∀ k (h : k < g.length), k < j + 1 → testB g[k] = true from fun e k h h1 => by
        rcases Nat.lt_succ_iff_lt_or_eq.1 h1 with h2 | rfl
        · exact hH.out k h h2
        · exact e)
      generalize g[j] = t at *
      clear ht hH
      go_wp2_with fail
      refine (gright_any t _ hfj.1 hfj.2 (Utf8Tabs_below HT.out (below_then hB (below_one _ _)))).mono ?_
      rintro e w1 ⟨rfl, hb⟩
      have hB1 := below_then (below_then hB (below_one _ _)) hb
      clear hb q0 q1 q2 q3 q4 q5 q6 hB
      cases hk : testB t
      · have F := Lib.hid (HG.out hk)
        clear hk
        go_wp2
        go_ret
        exact ⟨by rw [F.out]; rfl, hB1⟩
      · have F := Lib.hid (HN.out hk)
        clear hk
        go_wp2
        go_roundw
        case rel => exact ⟨j + 1, by omega, by go_num, hB1, F⟩
        case measure => simp [intOf]; omega
    · have F := Lib.hid (guard_good hl (fun k h => hH.out k h (by omega)))
      clear hH
      go_wp2
      go_ret
      exact ⟨by rw [F.out]; rfl, hB⟩
set_option maxRecDepth 100000 in
set_option maxHeartbeats 2000000 in
theorem rRight9_any (g : List TestD) (A : Option Addr) (c : Nat) (w : World) (hr : TReads w A g) (hf : FineT g) :
    Calls Tryd.prog 43 #[.slice A g.length c] w fun e w' => e = .returned (.int .i64 (guardE g)) ∧ Below w.heap.size w w' := by
  have hlen := hf.len
  by_cases h0 : 16 < g.length
  · have F := Lib.hid (show guardE g = 4 by rw [guardE, if_pos h0])
    clear hr hf
    go_enter Tryd.func43, Tryd.ntmps43
    go_wp2
    go_ret
    exact ⟨by rw [F.out]; rfl, Below.refl _ _⟩
  have hl : g.length ≤ 16 := by omega
  have hb0 : decide (16 < (g.length : Int)) = false := decide_eq_false (by omega)
  have HR := Lib.hid hr
  have HF := Lib.hid hf
  clear hr hf
  go_enter Tryd.func43, Tryd.ntmps43
  go_wp2_with fail
  go_loopw [3] (fun i wr => ∃ j : Nat, j ≤ g.length ∧ i = .int .i64 j ∧ Below w.heap.size w wr ∧ Hid (∀ k (h : k < g.length), k < j → testB g[k] = true)) (fun i wr => g.length - (intOf i).toNat)
  case atStart => exact ⟨0, Nat.zero_le _, rfl, Below.refl _ _, fun k _ h => absurd h (Nat.not_lt_zero k)⟩
  case round =>
    obtain ⟨j, hj, rfl, hB, hH⟩ := hrel
    by_cases hlt : j < g.length
    · obtain ⟨b, o, hA, ht⟩ := HR.out j hlt
      subst hA
      obtain ⟨q0, q1, q2, q3, q4, q5, q6⟩ := ht.below hB
      have hfj := HF.out.text j hlt
      have hi1 : (j : Int) < (g.length : Int) := by omega
      have hi0 : (0 : Int) ≤ (j : Int) := Int.natCast_nonneg _
      have HG := Lib.hid (show testB g[j] = false → guardE g = 90 from guard_bad hl hlt)
      have HN := Lib.hid (show testB g[j] = true → ∀ k (h : k < g.length), k < j + 1 → testB g[k] = true from fun e k h h1 => by
        rcases Nat.lt_succ_iff_lt_or_eq.1 h1 with h2 | rfl
        · exact hH.out k h h2
        · exact e)
      generalize g[j] = t at *
      clear ht hH
      go_wp2_with fail
      refine (rtest_any t _ hfj.1 hfj.2).mono ?_
      rintro e w1 ⟨rfl, hb⟩
      have hB1 := below_then hB hb
      clear hb q0 q1 q2 q3 q4 q5 q6 hB
      cases hk : testB t
      · have F := Lib.hid (HG.out hk)
        clear hk
        go_wp2
        go_ret
        exact ⟨by rw [F.out]; rfl, hB1⟩
      · have F := Lib.hid (HN.out hk)
        clear hk
        go_wp2
        go_roundw
        case rel => exact ⟨j + 1, by omega, by go_num, hB1, F⟩
        case measure => simp [intOf]; omega
    · have F := Lib.hid (guard_good hl (fun k h => hH.out k h (by omega)))
      clear hH
      go_wp2
      go_ret
      exact ⟨by rw [F.out]; rfl, hB⟩
end Go.Proofs.YtefpolgflimlgaaDoor.Tm
