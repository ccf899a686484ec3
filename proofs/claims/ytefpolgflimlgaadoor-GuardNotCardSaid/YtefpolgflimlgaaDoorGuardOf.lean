/- Operands: of, and what each kind says. -/
import Derived.Test.YtefpolgflimlgaaDoorGuardP
import Derived.Test.YtefpolgflimlgaaDoorCellW
import Derived.Handy
import Derived.WalkSmall
import Derived.RegionTactic
namespace Go.Proofs.YtefpolgflimlgaaDoor.Tm
open Go.RowKit
set_option linter.unusedVariables false
set_option linter.unusedSimpArgs false

def opTy (a : CellD) : TypeId := if a.kind = 1 then 186 else if a.kind = 3 then 187 else if a.kind = 4 then 188 else if a.kind = 5 then 189 else 190
def rightFn (a : CellD) : FuncId := if a.kind = 1 then 213 else if a.kind = 3 then 215 else if a.kind = 4 then 217 else if a.kind = 5 then 219 else 221
def valueFn (a : CellD) : FuncId := if a.kind = 1 then 214 else if a.kind = 3 then 216 else if a.kind = 4 then 218 else if a.kind = 5 then 220 else 222
abbrev aggC (a : CellD) : Value := .agg #[.int .i64 a.kind, .int .i64 a.n, .string a.text]
theorem of_any (a : CellD) (w : World) : Calls Tryd.prog 108 #[aggC a] w fun e w' => e = .returned (.iface (opTy a) (aggC a)) ∧ Below w.heap.size w w' := by
  have hB := below_one w (.cells #[.int .i64 a.kind, .int .i64 a.n, .string a.text] 49)
  have E := Lib.hid (show opTy a = _ from rfl)
  by_cases h1 : a.kind = 1
  · have F := Lib.hid (show opTy a = 186 by rw [opTy, if_pos h1])
    have b1 : (a.kind == 1) = true := by simp [h1]
    clear h1
    go_enter Tryd.func108, Tryd.ntmps108
    go_wp2
    go_ret
    exact ⟨by rw [F.out]; rfl, hB⟩
  have c1 : (a.kind == 1) = false := beq_eq_false_iff_ne.2 h1
  by_cases h3 : a.kind = 3
  · have F := Lib.hid (show opTy a = 187 by rw [opTy, if_neg h1, if_pos h3])
    have b1 : (a.kind == 3) = true := by simp [h3]
    clear h1 h3
    go_enter Tryd.func108, Tryd.ntmps108
    go_wp2
    go_ret
    exact ⟨by rw [F.out]; rfl, hB⟩
  have c3 : (a.kind == 3) = false := beq_eq_false_iff_ne.2 h3
  by_cases h4 : a.kind = 4
  · have F := Lib.hid (show opTy a = 188 by rw [opTy, if_neg h1, if_neg h3, if_pos h4])
    have b1 : (a.kind == 4) = true := by simp [h4]
    clear h1 h3 h4
    go_enter Tryd.func108, Tryd.ntmps108
    go_wp2
    go_ret
    exact ⟨by rw [F.out]; rfl, hB⟩
  have c4 : (a.kind == 4) = false := beq_eq_false_iff_ne.2 h4
  by_cases h5 : a.kind = 5
  · have F := Lib.hid (show opTy a = 189 by rw [opTy, if_neg h1, if_neg h3, if_neg h4, if_pos h5])
    have b1 : (a.kind == 5) = true := by simp [h5]
    clear h1 h3 h4 h5
    go_enter Tryd.func108, Tryd.ntmps108
    go_wp2
    go_ret
    exact ⟨by rw [F.out]; rfl, hB⟩
  · have F := Lib.hid (show opTy a = 190 by rw [opTy, if_neg h1, if_neg h3, if_neg h4, if_neg h5])
    have c5 : (a.kind == 5) = false := beq_eq_false_iff_ne.2 h5
    clear h1 h3 h4 h5
    go_enter Tryd.func108, Tryd.ntmps108
    go_wp2
    go_ret
    exact ⟨by rw [F.out]; rfl, hB⟩
theorem argB1 {a : CellD} (h : a.kind = 1) : argB a = (decide (0 ≤ a.n) && (decide (a.n < 16) && a.text.toList.isEmpty)) := by rw [argB, if_pos h]
theorem argB3 {a : CellD} (h : a.kind = 3) : argB a = a.text.toList.isEmpty := by rw [argB, if_neg (by omega), if_pos h]
theorem argB4 {a : CellD} (h : a.kind = 4) : argB a = (decide (a.n = 0) && decide (cellE (atomC a.text) = 0)) := by rw [argB, if_neg (by omega), if_neg (by omega), if_pos h]
theorem argB5 {a : CellD} (h : a.kind = 5) : argB a = (decide (a.n = 0) && a.text.toList.isEmpty) := by rw [argB, if_neg (by omega), if_neg (by omega), if_neg (by omega), if_pos h]
theorem argB0 {a : CellD} (h1 : a.kind ≠ 1) (h3 : a.kind ≠ 3) (h4 : a.kind ≠ 4) (h5 : a.kind ≠ 5) : argB a = false := by rw [argB, if_neg h1, if_neg h3, if_neg h4, if_neg h5]
set_option maxHeartbeats 1000000 in
theorem rightM_any (a : CellD) (w : World) (hs : a.text.size ≤ 9223372036854775807) (hT : Tabs w) : Calls Tryd.prog (rightFn a) #[aggC a] w fun e w' => e = .returned (.bool (argB a)) ∧ Below w.heap.size w w' := by
  have HT := Lib.hid hT
  clear hT
  by_cases h1 : a.kind = 1
  · rw [show rightFn a = 213 by rw [rightFn, if_pos h1]]
    have F := Lib.hid (argB1 h1)
    have hB := below_one w (.cells #[.int .i64 a.kind, .int .i64 a.n, .string a.text] 186)
    clear h1
    by_cases n0 : 0 ≤ a.n
    · by_cases n1 : a.n < 16
      · by_cases t0 : a.text.toList.isEmpty = true
        all_goals
          go_enter Tryd.func213, Tryd.ntmps213
          go_wp2
          go_ret
          exact ⟨by rw [F.out]; simp_all, hB⟩
      · have F2 := Lib.hid (show argB a = false by rw [F.out]; simp; intros; omega)
        clear F
        go_enter Tryd.func213, Tryd.ntmps213
        go_wp2
        go_ret
        exact ⟨by rw [F2.out]; simp, hB⟩
    · have F2 := Lib.hid (show argB a = false by rw [F.out]; simp; intros; omega)
      clear F
      go_enter Tryd.func213, Tryd.ntmps213
      go_wp2
      go_ret
      exact ⟨by rw [F2.out]; simp, hB⟩
  by_cases h3 : a.kind = 3
  · rw [show rightFn a = 215 by rw [rightFn, if_neg h1, if_pos h3]]
    have F := Lib.hid (argB3 h3)
    have hB := below_one w (.cells #[.int .i64 a.kind, .int .i64 a.n, .string a.text] 187)
    clear h1 h3
    go_enter Tryd.func215, Tryd.ntmps215
    go_wp2
    go_ret
    exact ⟨by rw [F.out]; simp, hB⟩
  by_cases h4 : a.kind = 4
  · rw [show rightFn a = 217 by rw [rightFn, if_neg h1, if_neg h3, if_pos h4]]
    have F := Lib.hid (argB4 h4)
    have hB := below_one w (.cells #[.int .i64 a.kind, .int .i64 a.n, .string a.text] 188)
    clear h1 h3 h4
    by_cases n0 : a.n = 0
    · have hn : (a.n == 0) = true := by simp [n0]
      have F2 := Lib.hid (show argB a = decide (cellE (atomC a.text) = 0) by rw [F.out]; simp [n0])
      clear F n0
      go_enter Tryd.func217, Tryd.ntmps217
      go_wp2_with fail
      refine (wcell_any (atomC a.text) _ hs (Utf8Tabs_below HT.out hB)).mono ?_
      rintro e w1 ⟨rfl, hb⟩
      go_wp2
      go_ret
      exact ⟨by rw [F2.out]; simp [Bool.beq_eq_decide_eq]; try rfl, below_then hB hb⟩
    · have hn : (a.n == 0) = false := beq_eq_false_iff_ne.2 n0
      go_enter Tryd.func217, Tryd.ntmps217
      go_wp2
      go_ret
      exact ⟨by rw [F.out]; simp_all, hB⟩
  by_cases h5 : a.kind = 5
  · rw [show rightFn a = 219 by rw [rightFn, if_neg h1, if_neg h3, if_neg h4, if_pos h5]]
    have F := Lib.hid (argB5 h5)
    have hB := below_one w (.cells #[.int .i64 a.kind, .int .i64 a.n, .string a.text] 189)
    clear h1 h3 h4 h5
    by_cases n0 : a.n = 0
    · have hn : (a.n == 0) = true := by simp [n0]
      have F2 := Lib.hid (show argB a = a.text.toList.isEmpty by rw [F.out]; simp [n0])
      clear F n0
      go_enter Tryd.func219, Tryd.ntmps219
      go_wp2
      go_ret
      exact ⟨by rw [F2.out]; simp, hB⟩
    · have hn : (a.n == 0) = false := beq_eq_false_iff_ne.2 n0
      go_enter Tryd.func219, Tryd.ntmps219
      go_wp2
      go_ret
      exact ⟨by rw [F.out]; simp_all, hB⟩
  · rw [show rightFn a = 221 by rw [rightFn, if_neg h1, if_neg h3, if_neg h4, if_neg h5]]
    have F := Lib.hid (argB0 h1 h3 h4 h5)
    have hB := below_one w (.cells #[.int .i64 a.kind, .int .i64 a.n, .string a.text] 190)
    clear h1 h3 h4 h5
    go_enter Tryd.func221, Tryd.ntmps221
    go_wp2
    go_ret
    exact ⟨by rw [F.out]; simp, hB⟩
end Go.Proofs.YtefpolgflimlgaaDoor.Tm
