/- The thirteen tests, and says. Printed by wip/mkguard.py. -/
import Derived.Test.YtefpolgflimlgaaDoorGdA
import Derived.Test.YtefpolgflimlgaaDoorMid
import Derived.Deep.RegionHeld3
import Derived.BigQuiet
namespace Go.Proofs.YtefpolgflimlgaaDoor.Tm
open Go.RowKit
set_option linter.unusedVariables false
set_option linter.unusedSimpArgs false

/-- Two values that are held against one another. -/
abbrev agg2 (A B : Option Addr) (n m c d : Nat) : Value := .agg #[.slice A n c, .slice B m d]
set_option maxHeartbeats 1000000 in
theorem way_any (a b : List CellD) (A B : Option Addr) (c d : Nat) (w : World) (hr : Reads w A a) (hr2 : Reads w B b) (hf : Fine a) (hf2 : Fine b) (hc : a.length ≤ c) (hd : b.length ≤ d) (hT : Tabs w) (ka : (rightE a).1 = 0) (kb : (rightE b).1 = 0) :
    Calls Tryd.prog 184 #[agg2 A B a.length b.length c d] w fun e w' => e = .returned (.int .i64 (termCmp a b)) ∧ Below w.heap.size w w' := by
  have hB := below_one w (.cells #[.slice A a.length c, .slice B b.length d] 126)
  have HR := Lib.hid (hr.below hB)
  have HR2 := Lib.hid (hr2.below hB)
  have HT := Lib.hid (Utf8Tabs_below hT hB)
  have HF := Lib.hid hf
  have HF2 := Lib.hid hf2
  have HC := Lib.hid (compare_ok ka kb)
  clear hr hr2 hf hf2 hT ka kb
  go_enter Tryd.func184, Tryd.ntmps184
  go_wp2_with fail
  refine (Compare_any a b A B c d _ HR.out HR2.out HF.out HF2.out hc hd HT.out).mono ?_
  rintro e w1 ⟨rfl, hb⟩
  rw [HC.out]
  go_wp2
  go_ret
  exact ⟨rfl, below_then hB hb⟩
set_option maxHeartbeats 1000000 in
theorem m_eq (a b : List CellD) (A B : Option Addr) (c d : Nat) (w : World) (hr : Reads w A a) (hr2 : Reads w B b) (hf : Fine a) (hf2 : Fine b) (hc : a.length ≤ c) (hd : b.length ≤ d) (hT : Tabs w) (ka : (rightE a).1 = 0) (kb : (rightE b).1 = 0) :
    Calls Tryd.prog 155 #[agg2 A B a.length b.length c d] w fun e w' => e = .returned (.bool (decide (termCmp a b = 0))) ∧ Below w.heap.size w w' := by
  have hB := below_one w (.cells #[.slice A a.length c, .slice B b.length d] 126)
  have HW := Lib.hid (way_any a b A B c d _ (hr.below hB) (hr2.below hB) hf hf2 hc hd (Utf8Tabs_below hT hB) ka kb)
  clear hr hr2 hf hf2 hT ka kb
  go_enter Tryd.func155, Tryd.ntmps155
  go_wp2_with fail
  refine HW.out.mono ?_
  rintro e w1 ⟨rfl, hb⟩
  go_wp2
  go_ret
  exact ⟨by first | rfl | simp [Bool.beq_eq_decide_eq, bne], below_then hB hb⟩
set_option maxHeartbeats 1000000 in
theorem m_ne (a b : List CellD) (A B : Option Addr) (c d : Nat) (w : World) (hr : Reads w A a) (hr2 : Reads w B b) (hf : Fine a) (hf2 : Fine b) (hc : a.length ≤ c) (hd : b.length ≤ d) (hT : Tabs w) (ka : (rightE a).1 = 0) (kb : (rightE b).1 = 0) :
    Calls Tryd.prog 156 #[agg2 A B a.length b.length c d] w fun e w' => e = .returned (.bool (!decide (termCmp a b = 0))) ∧ Below w.heap.size w w' := by
  have hB := below_one w (.cells #[.slice A a.length c, .slice B b.length d] 126)
  have HW := Lib.hid (way_any a b A B c d _ (hr.below hB) (hr2.below hB) hf hf2 hc hd (Utf8Tabs_below hT hB) ka kb)
  clear hr hr2 hf hf2 hT ka kb
  go_enter Tryd.func156, Tryd.ntmps156
  go_wp2_with fail
  refine HW.out.mono ?_
  rintro e w1 ⟨rfl, hb⟩
  go_wp2
  go_ret
  exact ⟨by first | rfl | simp [Bool.beq_eq_decide_eq, bne], below_then hB hb⟩
set_option maxHeartbeats 1000000 in
theorem m_lt (a b : List CellD) (A B : Option Addr) (c d : Nat) (w : World) (hr : Reads w A a) (hr2 : Reads w B b) (hf : Fine a) (hf2 : Fine b) (hc : a.length ≤ c) (hd : b.length ≤ d) (hT : Tabs w) (ka : (rightE a).1 = 0) (kb : (rightE b).1 = 0) :
    Calls Tryd.prog 157 #[agg2 A B a.length b.length c d] w fun e w' => e = .returned (.bool (decide (termCmp a b < 0))) ∧ Below w.heap.size w w' := by
  have hB := below_one w (.cells #[.slice A a.length c, .slice B b.length d] 126)
  have HW := Lib.hid (way_any a b A B c d _ (hr.below hB) (hr2.below hB) hf hf2 hc hd (Utf8Tabs_below hT hB) ka kb)
  clear hr hr2 hf hf2 hT ka kb
  go_enter Tryd.func157, Tryd.ntmps157
  go_wp2_with fail
  refine HW.out.mono ?_
  rintro e w1 ⟨rfl, hb⟩
  go_wp2
  go_ret
  exact ⟨by first | rfl | simp [Bool.beq_eq_decide_eq, bne], below_then hB hb⟩
set_option maxHeartbeats 1000000 in
theorem m_le (a b : List CellD) (A B : Option Addr) (c d : Nat) (w : World) (hr : Reads w A a) (hr2 : Reads w B b) (hf : Fine a) (hf2 : Fine b) (hc : a.length ≤ c) (hd : b.length ≤ d) (hT : Tabs w) (ka : (rightE a).1 = 0) (kb : (rightE b).1 = 0) :
    Calls Tryd.prog 158 #[agg2 A B a.length b.length c d] w fun e w' => e = .returned (.bool (decide (termCmp a b ≤ 0))) ∧ Below w.heap.size w w' := by
  have hB := below_one w (.cells #[.slice A a.length c, .slice B b.length d] 126)
  have HW := Lib.hid (way_any a b A B c d _ (hr.below hB) (hr2.below hB) hf hf2 hc hd (Utf8Tabs_below hT hB) ka kb)
  clear hr hr2 hf hf2 hT ka kb
  go_enter Tryd.func158, Tryd.ntmps158
  go_wp2_with fail
  refine HW.out.mono ?_
  rintro e w1 ⟨rfl, hb⟩
  go_wp2
  go_ret
  exact ⟨by first | rfl | simp [Bool.beq_eq_decide_eq, bne], below_then hB hb⟩
set_option maxHeartbeats 1000000 in
theorem m_gt (a b : List CellD) (A B : Option Addr) (c d : Nat) (w : World) (hr : Reads w A a) (hr2 : Reads w B b) (hf : Fine a) (hf2 : Fine b) (hc : a.length ≤ c) (hd : b.length ≤ d) (hT : Tabs w) (ka : (rightE a).1 = 0) (kb : (rightE b).1 = 0) :
    Calls Tryd.prog 159 #[agg2 A B a.length b.length c d] w fun e w' => e = .returned (.bool (decide (0 < termCmp a b))) ∧ Below w.heap.size w w' := by
  have hB := below_one w (.cells #[.slice A a.length c, .slice B b.length d] 126)
  have HW := Lib.hid (way_any a b A B c d _ (hr.below hB) (hr2.below hB) hf hf2 hc hd (Utf8Tabs_below hT hB) ka kb)
  clear hr hr2 hf hf2 hT ka kb
  go_enter Tryd.func159, Tryd.ntmps159
  go_wp2_with fail
  refine HW.out.mono ?_
  rintro e w1 ⟨rfl, hb⟩
  go_wp2
  go_ret
  exact ⟨by first | rfl | simp [Bool.beq_eq_decide_eq, bne], below_then hB hb⟩
set_option maxHeartbeats 1000000 in
theorem m_ge (a b : List CellD) (A B : Option Addr) (c d : Nat) (w : World) (hr : Reads w A a) (hr2 : Reads w B b) (hf : Fine a) (hf2 : Fine b) (hc : a.length ≤ c) (hd : b.length ≤ d) (hT : Tabs w) (ka : (rightE a).1 = 0) (kb : (rightE b).1 = 0) :
    Calls Tryd.prog 160 #[agg2 A B a.length b.length c d] w fun e w' => e = .returned (.bool (decide (0 ≤ termCmp a b))) ∧ Below w.heap.size w w' := by
  have hB := below_one w (.cells #[.slice A a.length c, .slice B b.length d] 126)
  have HW := Lib.hid (way_any a b A B c d _ (hr.below hB) (hr2.below hB) hf hf2 hc hd (Utf8Tabs_below hT hB) ka kb)
  clear hr hr2 hf hf2 hT ka kb
  go_enter Tryd.func160, Tryd.ntmps160
  go_wp2_with fail
  refine HW.out.mono ?_
  rintro e w1 ⟨rfl, hb⟩
  go_wp2
  go_ret
  exact ⟨by first | rfl | simp [Bool.beq_eq_decide_eq, bne], below_then hB hb⟩
set_option maxHeartbeats 1000000 in
theorem m_int (x : CellD) (a b : List CellD) (A B : Option Addr) (c d : Nat) (w : World) (hr : Reads w A (x :: a)) (hc : a.length + 1 ≤ c) :
    Calls Tryd.prog 161 #[agg2 A B (x :: a).length b.length c d] w fun e w' => e = .returned (.bool (decide (x.kind = 1))) ∧ Below w.heap.size w w' := by
  have hB := below_one w (.cells #[.slice A (x :: a).length c, .slice B b.length d] 126)
  obtain ⟨g, o, rfl, hx, _, _⟩ := (hr.below hB) 0 (by simp)
  have hx' : (w.alloc (.cells #[.slice (some ⟨g, o, none⟩) (x :: a).length c, .slice B b.length d] 126)).cell? ⟨g, o, none⟩ = some (.int .i64 x.kind) := by simpa using hx
  have hl : (x :: a).length = a.length + 1 := rfl
  have hi : (0 : Int) < ((x :: a).length : Int) := by rw [hl]; omega
  clear hr hx hl
  generalize (x :: a).length = n at *
  by_cases k6 : x.kind = 6
  all_goals
    have F := Lib.hid k6
    have b6 : (x.kind == 6) = decide (x.kind = 6) := Bool.beq_eq_decide_eq _ _
    simp only [k6, decide_true, decide_false] at b6
    clear k6
    go_enter Tryd.func161, Tryd.ntmps161
    go_wp2
    go_ret
    exact ⟨by have := F.out; first | rfl | simp_all [Bool.beq_eq_decide_eq] , hB⟩
set_option maxHeartbeats 1000000 in
theorem m_atom (x : CellD) (a b : List CellD) (A B : Option Addr) (c d : Nat) (w : World) (hr : Reads w A (x :: a)) (hc : a.length + 1 ≤ c) :
    Calls Tryd.prog 162 #[agg2 A B (x :: a).length b.length c d] w fun e w' => e = .returned (.bool (decide (x.kind = 2))) ∧ Below w.heap.size w w' := by
  have hB := below_one w (.cells #[.slice A (x :: a).length c, .slice B b.length d] 126)
  obtain ⟨g, o, rfl, hx, _, _⟩ := (hr.below hB) 0 (by simp)
  have hx' : (w.alloc (.cells #[.slice (some ⟨g, o, none⟩) (x :: a).length c, .slice B b.length d] 126)).cell? ⟨g, o, none⟩ = some (.int .i64 x.kind) := by simpa using hx
  have hl : (x :: a).length = a.length + 1 := rfl
  have hi : (0 : Int) < ((x :: a).length : Int) := by rw [hl]; omega
  clear hr hx hl
  generalize (x :: a).length = n at *
  by_cases k6 : x.kind = 6
  all_goals
    have F := Lib.hid k6
    have b6 : (x.kind == 6) = decide (x.kind = 6) := Bool.beq_eq_decide_eq _ _
    simp only [k6, decide_true, decide_false] at b6
    clear k6
    go_enter Tryd.func162, Tryd.ntmps162
    go_wp2
    go_ret
    exact ⟨by have := F.out; first | rfl | simp_all [Bool.beq_eq_decide_eq] , hB⟩
set_option maxHeartbeats 1000000 in
theorem m_ref (x : CellD) (a b : List CellD) (A B : Option Addr) (c d : Nat) (w : World) (hr : Reads w A (x :: a)) (hc : a.length + 1 ≤ c) :
    Calls Tryd.prog 163 #[agg2 A B (x :: a).length b.length c d] w fun e w' => e = .returned (.bool (decide (x.kind = 3))) ∧ Below w.heap.size w w' := by
  have hB := below_one w (.cells #[.slice A (x :: a).length c, .slice B b.length d] 126)
  obtain ⟨g, o, rfl, hx, _, _⟩ := (hr.below hB) 0 (by simp)
  have hx' : (w.alloc (.cells #[.slice (some ⟨g, o, none⟩) (x :: a).length c, .slice B b.length d] 126)).cell? ⟨g, o, none⟩ = some (.int .i64 x.kind) := by simpa using hx
  have hl : (x :: a).length = a.length + 1 := rfl
  have hi : (0 : Int) < ((x :: a).length : Int) := by rw [hl]; omega
  clear hr hx hl
  generalize (x :: a).length = n at *
  by_cases k6 : x.kind = 6
  all_goals
    have F := Lib.hid k6
    have b6 : (x.kind == 6) = decide (x.kind = 6) := Bool.beq_eq_decide_eq _ _
    simp only [k6, decide_true, decide_false] at b6
    clear k6
    go_enter Tryd.func163, Tryd.ntmps163
    go_wp2
    go_ret
    exact ⟨by have := F.out; first | rfl | simp_all [Bool.beq_eq_decide_eq] , hB⟩
set_option maxHeartbeats 1000000 in
theorem m_pid (x : CellD) (a b : List CellD) (A B : Option Addr) (c d : Nat) (w : World) (hr : Reads w A (x :: a)) (hc : a.length + 1 ≤ c) :
    Calls Tryd.prog 164 #[agg2 A B (x :: a).length b.length c d] w fun e w' => e = .returned (.bool (decide (x.kind = 4))) ∧ Below w.heap.size w w' := by
  have hB := below_one w (.cells #[.slice A (x :: a).length c, .slice B b.length d] 126)
  obtain ⟨g, o, rfl, hx, _, _⟩ := (hr.below hB) 0 (by simp)
  have hx' : (w.alloc (.cells #[.slice (some ⟨g, o, none⟩) (x :: a).length c, .slice B b.length d] 126)).cell? ⟨g, o, none⟩ = some (.int .i64 x.kind) := by simpa using hx
  have hl : (x :: a).length = a.length + 1 := rfl
  have hi : (0 : Int) < ((x :: a).length : Int) := by rw [hl]; omega
  clear hr hx hl
  generalize (x :: a).length = n at *
  by_cases k6 : x.kind = 6
  all_goals
    have F := Lib.hid k6
    have b6 : (x.kind == 6) = decide (x.kind = 6) := Bool.beq_eq_decide_eq _ _
    simp only [k6, decide_true, decide_false] at b6
    clear k6
    go_enter Tryd.func164, Tryd.ntmps164
    go_wp2
    go_ret
    exact ⟨by have := F.out; first | rfl | simp_all [Bool.beq_eq_decide_eq] , hB⟩
set_option maxHeartbeats 1000000 in
theorem m_tuple (x : CellD) (a b : List CellD) (A B : Option Addr) (c d : Nat) (w : World) (hr : Reads w A (x :: a)) (hc : a.length + 1 ≤ c) :
    Calls Tryd.prog 165 #[agg2 A B (x :: a).length b.length c d] w fun e w' => e = .returned (.bool (decide (x.kind = 5))) ∧ Below w.heap.size w w' := by
  have hB := below_one w (.cells #[.slice A (x :: a).length c, .slice B b.length d] 126)
  obtain ⟨g, o, rfl, hx, _, _⟩ := (hr.below hB) 0 (by simp)
  have hx' : (w.alloc (.cells #[.slice (some ⟨g, o, none⟩) (x :: a).length c, .slice B b.length d] 126)).cell? ⟨g, o, none⟩ = some (.int .i64 x.kind) := by simpa using hx
  have hl : (x :: a).length = a.length + 1 := rfl
  have hi : (0 : Int) < ((x :: a).length : Int) := by rw [hl]; omega
  clear hr hx hl
  generalize (x :: a).length = n at *
  by_cases k6 : x.kind = 6
  all_goals
    have F := Lib.hid k6
    have b6 : (x.kind == 6) = decide (x.kind = 6) := Bool.beq_eq_decide_eq _ _
    simp only [k6, decide_true, decide_false] at b6
    clear k6
    go_enter Tryd.func165, Tryd.ntmps165
    go_wp2
    go_ret
    exact ⟨by have := F.out; first | rfl | simp_all [Bool.beq_eq_decide_eq] , hB⟩
set_option maxHeartbeats 1000000 in
theorem m_list (x : CellD) (a b : List CellD) (A B : Option Addr) (c d : Nat) (w : World) (hr : Reads w A (x :: a)) (hc : a.length + 1 ≤ c) :
    Calls Tryd.prog 166 #[agg2 A B (x :: a).length b.length c d] w fun e w' => e = .returned (.bool (decide (x.kind = 6) || decide (x.kind = 7))) ∧ Below w.heap.size w w' := by
  have hB := below_one w (.cells #[.slice A (x :: a).length c, .slice B b.length d] 126)
  obtain ⟨g, o, rfl, hx, _, _⟩ := (hr.below hB) 0 (by simp)
  have hx' : (w.alloc (.cells #[.slice (some ⟨g, o, none⟩) (x :: a).length c, .slice B b.length d] 126)).cell? ⟨g, o, none⟩ = some (.int .i64 x.kind) := by simpa using hx
  have hl : (x :: a).length = a.length + 1 := rfl
  have hi : (0 : Int) < ((x :: a).length : Int) := by rw [hl]; omega
  clear hr hx hl
  generalize (x :: a).length = n at *
  by_cases k6 : x.kind = 6
  all_goals
    have F := Lib.hid k6
    have b6 : (x.kind == 6) = decide (x.kind = 6) := Bool.beq_eq_decide_eq _ _
    simp only [k6, decide_true, decide_false] at b6
    clear k6
    go_enter Tryd.func166, Tryd.ntmps166
    go_wp2
    go_ret
    exact ⟨by have := F.out; first | rfl | simp_all [Bool.beq_eq_decide_eq] , hB⟩
set_option maxHeartbeats 1000000 in
theorem m_bin (x : CellD) (a b : List CellD) (A B : Option Addr) (c d : Nat) (w : World) (hr : Reads w A (x :: a)) (hc : a.length + 1 ≤ c) :
    Calls Tryd.prog 167 #[agg2 A B (x :: a).length b.length c d] w fun e w' => e = .returned (.bool (decide (x.kind = 8))) ∧ Below w.heap.size w w' := by
  have hB := below_one w (.cells #[.slice A (x :: a).length c, .slice B b.length d] 126)
  obtain ⟨g, o, rfl, hx, _, _⟩ := (hr.below hB) 0 (by simp)
  have hx' : (w.alloc (.cells #[.slice (some ⟨g, o, none⟩) (x :: a).length c, .slice B b.length d] 126)).cell? ⟨g, o, none⟩ = some (.int .i64 x.kind) := by simpa using hx
  have hl : (x :: a).length = a.length + 1 := rfl
  have hi : (0 : Int) < ((x :: a).length : Int) := by rw [hl]; omega
  clear hr hx hl
  generalize (x :: a).length = n at *
  by_cases k6 : x.kind = 6
  all_goals
    have F := Lib.hid k6
    have b6 : (x.kind == 6) = decide (x.kind = 6) := Bool.beq_eq_decide_eq _ _
    simp only [k6, decide_true, decide_false] at b6
    clear k6
    go_enter Tryd.func167, Tryd.ntmps167
    go_wp2
    go_ret
    exact ⟨by have := F.out; first | rfl | simp_all [Bool.beq_eq_decide_eq] , hB⟩
def sayTab : Array Value := #[Value.func (Fn.func 155) #[] #[], Value.func (Fn.func 156) #[] #[], Value.func (Fn.func 157) #[] #[], Value.func (Fn.func 158) #[] #[], Value.func (Fn.func 159) #[] #[], Value.func (Fn.func 160) #[] #[], Value.func (Fn.func 161) #[] #[], Value.func (Fn.func 162) #[] #[], Value.func (Fn.func 163) #[] #[], Value.func (Fn.func 164) #[] #[], Value.func (Fn.func 165) #[] #[], Value.func (Fn.func 166) #[] #[], Value.func (Fn.func 167) #[] #[]]
set_option maxRecDepth 100000 in
set_option maxHeartbeats 4000000 in
theorem says_1 (a b : List CellD) (A B : Option Addr) (c d : Nat) (w : World) (hr : Reads w A a) (hr2 : Reads w B b) (hf : Fine a) (hf2 : Fine b) (hc : a.length ≤ c) (hd : b.length ≤ d) (hT : Tabs w) (ka : (rightE a).1 = 0) (kb : (rightE b).1 = 0) :
    Calls Tryd.prog 109 #[.int .i64 1, agg2 A B a.length b.length c d] w fun e w' => e = .returned (.bool (decide (termCmp a b = 0))) ∧ Below w.heap.size w w' := by
  have HR := Lib.hid hr
  have HR2 := Lib.hid hr2
  have HF := Lib.hid hf
  have HF2 := Lib.hid hf2
  have HT := Lib.hid hT
  have KA := Lib.hid ka
  have KB := Lib.hid kb
  clear hr hr2 hf hf2 hT ka kb
  have hw : IntKind.i64.wrap (1 - 1) = 0 := by decide
  have hw1 : IntKind.i64.wrap 0 = 0 := by decide
  have hBB := (below_then (below_one w (.cells #[.slice A a.length c, .slice B b.length d] 126)) (below_one _ (.cells #[Value.func (Fn.func 155) #[] #[], Value.func (Fn.func 156) #[] #[], Value.func (Fn.func 157) #[] #[], Value.func (Fn.func 158) #[] #[], Value.func (Fn.func 159) #[] #[], Value.func (Fn.func 160) #[] #[], Value.func (Fn.func 161) #[] #[], Value.func (Fn.func 162) #[] #[], Value.func (Fn.func 163) #[] #[], Value.func (Fn.func 164) #[] #[], Value.func (Fn.func 165) #[] #[], Value.func (Fn.func 166) #[] #[], Value.func (Fn.func 167) #[] #[]] 191))).drew
  go_enter Tryd.func109, Tryd.ntmps109
  go_wp2_with fail
  go_region_held3 (fun w' => w'.cell? ⟨w.heap.size, 0, none⟩ = some (.slice A a.length c) ∧ w'.cell? ⟨w.heap.size, 1, none⟩ = some (.slice B b.length d) ∧ w'.cell? ⟨w.heap.size + 1, 0, none⟩ = some (Value.func (Fn.func 155) #[] #[]))
    (first | go_keep | exact ⟨by go_cell, by go_cell, by go_cell⟩ | exact ⟨cell_below hbc (by go_cell), cell_below hbc (by go_cell), cell_below hbc (by go_cell)⟩)
    ((go_at_call 155; refine (m_eq a b A B c d _ (HR.out.below hBB) (HR2.out.below hBB) HF.out HF2.out hc hd (Utf8Tabs_below HT.out hBB) KA.out KB.out).mono ?_; rintro e wc ⟨rfl, hbc⟩))
  go_wp2
  go_ret
  exact ⟨rfl, below_then hBB hbc⟩
set_option maxRecDepth 100000 in
set_option maxHeartbeats 4000000 in
theorem says_2 (a b : List CellD) (A B : Option Addr) (c d : Nat) (w : World) (hr : Reads w A a) (hr2 : Reads w B b) (hf : Fine a) (hf2 : Fine b) (hc : a.length ≤ c) (hd : b.length ≤ d) (hT : Tabs w) (ka : (rightE a).1 = 0) (kb : (rightE b).1 = 0) :
    Calls Tryd.prog 109 #[.int .i64 2, agg2 A B a.length b.length c d] w fun e w' => e = .returned (.bool (!decide (termCmp a b = 0))) ∧ Below w.heap.size w w' := by
  have HR := Lib.hid hr
  have HR2 := Lib.hid hr2
  have HF := Lib.hid hf
  have HF2 := Lib.hid hf2
  have HT := Lib.hid hT
  have KA := Lib.hid ka
  have KB := Lib.hid kb
  clear hr hr2 hf hf2 hT ka kb
  have hw : IntKind.i64.wrap (2 - 1) = 1 := by decide
  have hw1 : IntKind.i64.wrap 1 = 1 := by decide
  have hBB := (below_then (below_one w (.cells #[.slice A a.length c, .slice B b.length d] 126)) (below_one _ (.cells #[Value.func (Fn.func 155) #[] #[], Value.func (Fn.func 156) #[] #[], Value.func (Fn.func 157) #[] #[], Value.func (Fn.func 158) #[] #[], Value.func (Fn.func 159) #[] #[], Value.func (Fn.func 160) #[] #[], Value.func (Fn.func 161) #[] #[], Value.func (Fn.func 162) #[] #[], Value.func (Fn.func 163) #[] #[], Value.func (Fn.func 164) #[] #[], Value.func (Fn.func 165) #[] #[], Value.func (Fn.func 166) #[] #[], Value.func (Fn.func 167) #[] #[]] 191))).drew
  go_enter Tryd.func109, Tryd.ntmps109
  go_wp2_with fail
  go_region_held3 (fun w' => w'.cell? ⟨w.heap.size, 0, none⟩ = some (.slice A a.length c) ∧ w'.cell? ⟨w.heap.size, 1, none⟩ = some (.slice B b.length d) ∧ w'.cell? ⟨w.heap.size + 1, 1, none⟩ = some (Value.func (Fn.func 156) #[] #[]))
    (first | go_keep | exact ⟨by go_cell, by go_cell, by go_cell⟩ | exact ⟨cell_below hbc (by go_cell), cell_below hbc (by go_cell), cell_below hbc (by go_cell)⟩)
    ((go_at_call 156; refine (m_ne a b A B c d _ (HR.out.below hBB) (HR2.out.below hBB) HF.out HF2.out hc hd (Utf8Tabs_below HT.out hBB) KA.out KB.out).mono ?_; rintro e wc ⟨rfl, hbc⟩))
  go_wp2
  go_ret
  exact ⟨rfl, below_then hBB hbc⟩
set_option maxRecDepth 100000 in
set_option maxHeartbeats 4000000 in
theorem says_3 (a b : List CellD) (A B : Option Addr) (c d : Nat) (w : World) (hr : Reads w A a) (hr2 : Reads w B b) (hf : Fine a) (hf2 : Fine b) (hc : a.length ≤ c) (hd : b.length ≤ d) (hT : Tabs w) (ka : (rightE a).1 = 0) (kb : (rightE b).1 = 0) :
    Calls Tryd.prog 109 #[.int .i64 3, agg2 A B a.length b.length c d] w fun e w' => e = .returned (.bool (decide (termCmp a b < 0))) ∧ Below w.heap.size w w' := by
  have HR := Lib.hid hr
  have HR2 := Lib.hid hr2
  have HF := Lib.hid hf
  have HF2 := Lib.hid hf2
  have HT := Lib.hid hT
  have KA := Lib.hid ka
  have KB := Lib.hid kb
  clear hr hr2 hf hf2 hT ka kb
  have hw : IntKind.i64.wrap (3 - 1) = 2 := by decide
  have hw1 : IntKind.i64.wrap 2 = 2 := by decide
  have hBB := (below_then (below_one w (.cells #[.slice A a.length c, .slice B b.length d] 126)) (below_one _ (.cells #[Value.func (Fn.func 155) #[] #[], Value.func (Fn.func 156) #[] #[], Value.func (Fn.func 157) #[] #[], Value.func (Fn.func 158) #[] #[], Value.func (Fn.func 159) #[] #[], Value.func (Fn.func 160) #[] #[], Value.func (Fn.func 161) #[] #[], Value.func (Fn.func 162) #[] #[], Value.func (Fn.func 163) #[] #[], Value.func (Fn.func 164) #[] #[], Value.func (Fn.func 165) #[] #[], Value.func (Fn.func 166) #[] #[], Value.func (Fn.func 167) #[] #[]] 191))).drew
  go_enter Tryd.func109, Tryd.ntmps109
  go_wp2_with fail
  go_region_held3 (fun w' => w'.cell? ⟨w.heap.size, 0, none⟩ = some (.slice A a.length c) ∧ w'.cell? ⟨w.heap.size, 1, none⟩ = some (.slice B b.length d) ∧ w'.cell? ⟨w.heap.size + 1, 2, none⟩ = some (Value.func (Fn.func 157) #[] #[]))
    (first | go_keep | exact ⟨by go_cell, by go_cell, by go_cell⟩ | exact ⟨cell_below hbc (by go_cell), cell_below hbc (by go_cell), cell_below hbc (by go_cell)⟩)
    ((go_at_call 157; refine (m_lt a b A B c d _ (HR.out.below hBB) (HR2.out.below hBB) HF.out HF2.out hc hd (Utf8Tabs_below HT.out hBB) KA.out KB.out).mono ?_; rintro e wc ⟨rfl, hbc⟩))
  go_wp2
  go_ret
  exact ⟨rfl, below_then hBB hbc⟩
set_option maxRecDepth 100000 in
set_option maxHeartbeats 4000000 in
theorem says_4 (a b : List CellD) (A B : Option Addr) (c d : Nat) (w : World) (hr : Reads w A a) (hr2 : Reads w B b) (hf : Fine a) (hf2 : Fine b) (hc : a.length ≤ c) (hd : b.length ≤ d) (hT : Tabs w) (ka : (rightE a).1 = 0) (kb : (rightE b).1 = 0) :
    Calls Tryd.prog 109 #[.int .i64 4, agg2 A B a.length b.length c d] w fun e w' => e = .returned (.bool (decide (termCmp a b ≤ 0))) ∧ Below w.heap.size w w' := by
  have HR := Lib.hid hr
  have HR2 := Lib.hid hr2
  have HF := Lib.hid hf
  have HF2 := Lib.hid hf2
  have HT := Lib.hid hT
  have KA := Lib.hid ka
  have KB := Lib.hid kb
  clear hr hr2 hf hf2 hT ka kb
  have hw : IntKind.i64.wrap (4 - 1) = 3 := by decide
  have hw1 : IntKind.i64.wrap 3 = 3 := by decide
  have hBB := (below_then (below_one w (.cells #[.slice A a.length c, .slice B b.length d] 126)) (below_one _ (.cells #[Value.func (Fn.func 155) #[] #[], Value.func (Fn.func 156) #[] #[], Value.func (Fn.func 157) #[] #[], Value.func (Fn.func 158) #[] #[], Value.func (Fn.func 159) #[] #[], Value.func (Fn.func 160) #[] #[], Value.func (Fn.func 161) #[] #[], Value.func (Fn.func 162) #[] #[], Value.func (Fn.func 163) #[] #[], Value.func (Fn.func 164) #[] #[], Value.func (Fn.func 165) #[] #[], Value.func (Fn.func 166) #[] #[], Value.func (Fn.func 167) #[] #[]] 191))).drew
  go_enter Tryd.func109, Tryd.ntmps109
  go_wp2_with fail
  go_region_held3 (fun w' => w'.cell? ⟨w.heap.size, 0, none⟩ = some (.slice A a.length c) ∧ w'.cell? ⟨w.heap.size, 1, none⟩ = some (.slice B b.length d) ∧ w'.cell? ⟨w.heap.size + 1, 3, none⟩ = some (Value.func (Fn.func 158) #[] #[]))
    (first | go_keep | exact ⟨by go_cell, by go_cell, by go_cell⟩ | exact ⟨cell_below hbc (by go_cell), cell_below hbc (by go_cell), cell_below hbc (by go_cell)⟩)
    ((go_at_call 158; refine (m_le a b A B c d _ (HR.out.below hBB) (HR2.out.below hBB) HF.out HF2.out hc hd (Utf8Tabs_below HT.out hBB) KA.out KB.out).mono ?_; rintro e wc ⟨rfl, hbc⟩))
  go_wp2
  go_ret
  exact ⟨rfl, below_then hBB hbc⟩
set_option maxRecDepth 100000 in
set_option maxHeartbeats 4000000 in
theorem says_5 (a b : List CellD) (A B : Option Addr) (c d : Nat) (w : World) (hr : Reads w A a) (hr2 : Reads w B b) (hf : Fine a) (hf2 : Fine b) (hc : a.length ≤ c) (hd : b.length ≤ d) (hT : Tabs w) (ka : (rightE a).1 = 0) (kb : (rightE b).1 = 0) :
    Calls Tryd.prog 109 #[.int .i64 5, agg2 A B a.length b.length c d] w fun e w' => e = .returned (.bool (decide (0 < termCmp a b))) ∧ Below w.heap.size w w' := by
  have HR := Lib.hid hr
  have HR2 := Lib.hid hr2
  have HF := Lib.hid hf
  have HF2 := Lib.hid hf2
  have HT := Lib.hid hT
  have KA := Lib.hid ka
  have KB := Lib.hid kb
  clear hr hr2 hf hf2 hT ka kb
  have hw : IntKind.i64.wrap (5 - 1) = 4 := by decide
  have hw1 : IntKind.i64.wrap 4 = 4 := by decide
  have hBB := (below_then (below_one w (.cells #[.slice A a.length c, .slice B b.length d] 126)) (below_one _ (.cells #[Value.func (Fn.func 155) #[] #[], Value.func (Fn.func 156) #[] #[], Value.func (Fn.func 157) #[] #[], Value.func (Fn.func 158) #[] #[], Value.func (Fn.func 159) #[] #[], Value.func (Fn.func 160) #[] #[], Value.func (Fn.func 161) #[] #[], Value.func (Fn.func 162) #[] #[], Value.func (Fn.func 163) #[] #[], Value.func (Fn.func 164) #[] #[], Value.func (Fn.func 165) #[] #[], Value.func (Fn.func 166) #[] #[], Value.func (Fn.func 167) #[] #[]] 191))).drew
  go_enter Tryd.func109, Tryd.ntmps109
  go_wp2_with fail
  go_region_held3 (fun w' => w'.cell? ⟨w.heap.size, 0, none⟩ = some (.slice A a.length c) ∧ w'.cell? ⟨w.heap.size, 1, none⟩ = some (.slice B b.length d) ∧ w'.cell? ⟨w.heap.size + 1, 4, none⟩ = some (Value.func (Fn.func 159) #[] #[]))
    (first | go_keep | exact ⟨by go_cell, by go_cell, by go_cell⟩ | exact ⟨cell_below hbc (by go_cell), cell_below hbc (by go_cell), cell_below hbc (by go_cell)⟩)
    ((go_at_call 159; refine (m_gt a b A B c d _ (HR.out.below hBB) (HR2.out.below hBB) HF.out HF2.out hc hd (Utf8Tabs_below HT.out hBB) KA.out KB.out).mono ?_; rintro e wc ⟨rfl, hbc⟩))
  go_wp2
  go_ret
  exact ⟨rfl, below_then hBB hbc⟩
set_option maxRecDepth 100000 in
set_option maxHeartbeats 4000000 in
theorem says_6 (a b : List CellD) (A B : Option Addr) (c d : Nat) (w : World) (hr : Reads w A a) (hr2 : Reads w B b) (hf : Fine a) (hf2 : Fine b) (hc : a.length ≤ c) (hd : b.length ≤ d) (hT : Tabs w) (ka : (rightE a).1 = 0) (kb : (rightE b).1 = 0) :
    Calls Tryd.prog 109 #[.int .i64 6, agg2 A B a.length b.length c d] w fun e w' => e = .returned (.bool (decide (0 ≤ termCmp a b))) ∧ Below w.heap.size w w' := by
  have HR := Lib.hid hr
  have HR2 := Lib.hid hr2
  have HF := Lib.hid hf
  have HF2 := Lib.hid hf2
  have HT := Lib.hid hT
  have KA := Lib.hid ka
  have KB := Lib.hid kb
  clear hr hr2 hf hf2 hT ka kb
  have hw : IntKind.i64.wrap (6 - 1) = 5 := by decide
  have hw1 : IntKind.i64.wrap 5 = 5 := by decide
  have hBB := (below_then (below_one w (.cells #[.slice A a.length c, .slice B b.length d] 126)) (below_one _ (.cells #[Value.func (Fn.func 155) #[] #[], Value.func (Fn.func 156) #[] #[], Value.func (Fn.func 157) #[] #[], Value.func (Fn.func 158) #[] #[], Value.func (Fn.func 159) #[] #[], Value.func (Fn.func 160) #[] #[], Value.func (Fn.func 161) #[] #[], Value.func (Fn.func 162) #[] #[], Value.func (Fn.func 163) #[] #[], Value.func (Fn.func 164) #[] #[], Value.func (Fn.func 165) #[] #[], Value.func (Fn.func 166) #[] #[], Value.func (Fn.func 167) #[] #[]] 191))).drew
  go_enter Tryd.func109, Tryd.ntmps109
  go_wp2_with fail
  go_region_held3 (fun w' => w'.cell? ⟨w.heap.size, 0, none⟩ = some (.slice A a.length c) ∧ w'.cell? ⟨w.heap.size, 1, none⟩ = some (.slice B b.length d) ∧ w'.cell? ⟨w.heap.size + 1, 5, none⟩ = some (Value.func (Fn.func 160) #[] #[]))
    (first | go_keep | exact ⟨by go_cell, by go_cell, by go_cell⟩ | exact ⟨cell_below hbc (by go_cell), cell_below hbc (by go_cell), cell_below hbc (by go_cell)⟩)
    ((go_at_call 160; refine (m_ge a b A B c d _ (HR.out.below hBB) (HR2.out.below hBB) HF.out HF2.out hc hd (Utf8Tabs_below HT.out hBB) KA.out KB.out).mono ?_; rintro e wc ⟨rfl, hbc⟩))
  go_wp2
  go_ret
  exact ⟨rfl, below_then hBB hbc⟩
set_option maxRecDepth 100000 in
set_option maxHeartbeats 4000000 in
theorem says_7 (x : CellD) (a b : List CellD) (A B : Option Addr) (c d : Nat) (w : World) (hr : Reads w A (x :: a)) (hc : a.length + 1 ≤ c) :
    Calls Tryd.prog 109 #[.int .i64 7, agg2 A B (x :: a).length b.length c d] w fun e w' => e = .returned (.bool (decide (x.kind = 1))) ∧ Below w.heap.size w w' := by
  have HR := Lib.hid hr
  clear hr
  have hw : IntKind.i64.wrap (7 - 1) = 6 := by decide
  have hw1 : IntKind.i64.wrap 6 = 6 := by decide
  have hBB := (below_then (below_one w (.cells #[.slice A (a.length + 1) c, .slice B b.length d] 126)) (below_one _ (.cells #[Value.func (Fn.func 155) #[] #[], Value.func (Fn.func 156) #[] #[], Value.func (Fn.func 157) #[] #[], Value.func (Fn.func 158) #[] #[], Value.func (Fn.func 159) #[] #[], Value.func (Fn.func 160) #[] #[], Value.func (Fn.func 161) #[] #[], Value.func (Fn.func 162) #[] #[], Value.func (Fn.func 163) #[] #[], Value.func (Fn.func 164) #[] #[], Value.func (Fn.func 165) #[] #[], Value.func (Fn.func 166) #[] #[], Value.func (Fn.func 167) #[] #[]] 191))).drew
  go_enter Tryd.func109, Tryd.ntmps109
  go_wp2_with fail
  go_region_held3 (fun w' => w'.cell? ⟨w.heap.size, 0, none⟩ = some (.slice A (a.length + 1) c) ∧ w'.cell? ⟨w.heap.size, 1, none⟩ = some (.slice B b.length d) ∧ w'.cell? ⟨w.heap.size + 1, 6, none⟩ = some (Value.func (Fn.func 161) #[] #[]))
    (first | go_keep | exact ⟨by go_cell, by go_cell, by go_cell⟩ | exact ⟨cell_below hbc (by go_cell), cell_below hbc (by go_cell), cell_below hbc (by go_cell)⟩)
    ((go_at_call 161; refine (m_int x a b A B c d _ (HR.out.below hBB) hc).mono ?_; rintro e wc ⟨rfl, hbc⟩))
  go_wp2
  go_ret
  exact ⟨rfl, below_then hBB hbc⟩
set_option maxRecDepth 100000 in
set_option maxHeartbeats 4000000 in
theorem says_8 (x : CellD) (a b : List CellD) (A B : Option Addr) (c d : Nat) (w : World) (hr : Reads w A (x :: a)) (hc : a.length + 1 ≤ c) :
    Calls Tryd.prog 109 #[.int .i64 8, agg2 A B (x :: a).length b.length c d] w fun e w' => e = .returned (.bool (decide (x.kind = 2))) ∧ Below w.heap.size w w' := by
  have HR := Lib.hid hr
  clear hr
  have hw : IntKind.i64.wrap (8 - 1) = 7 := by decide
  have hw1 : IntKind.i64.wrap 7 = 7 := by decide
  have hBB := (below_then (below_one w (.cells #[.slice A (a.length + 1) c, .slice B b.length d] 126)) (below_one _ (.cells #[Value.func (Fn.func 155) #[] #[], Value.func (Fn.func 156) #[] #[], Value.func (Fn.func 157) #[] #[], Value.func (Fn.func 158) #[] #[], Value.func (Fn.func 159) #[] #[], Value.func (Fn.func 160) #[] #[], Value.func (Fn.func 161) #[] #[], Value.func (Fn.func 162) #[] #[], Value.func (Fn.func 163) #[] #[], Value.func (Fn.func 164) #[] #[], Value.func (Fn.func 165) #[] #[], Value.func (Fn.func 166) #[] #[], Value.func (Fn.func 167) #[] #[]] 191))).drew
  go_enter Tryd.func109, Tryd.ntmps109
  go_wp2_with fail
  go_region_held3 (fun w' => w'.cell? ⟨w.heap.size, 0, none⟩ = some (.slice A (a.length + 1) c) ∧ w'.cell? ⟨w.heap.size, 1, none⟩ = some (.slice B b.length d) ∧ w'.cell? ⟨w.heap.size + 1, 7, none⟩ = some (Value.func (Fn.func 162) #[] #[]))
    (first | go_keep | exact ⟨by go_cell, by go_cell, by go_cell⟩ | exact ⟨cell_below hbc (by go_cell), cell_below hbc (by go_cell), cell_below hbc (by go_cell)⟩)
    ((go_at_call 162; refine (m_atom x a b A B c d _ (HR.out.below hBB) hc).mono ?_; rintro e wc ⟨rfl, hbc⟩))
  go_wp2
  go_ret
  exact ⟨rfl, below_then hBB hbc⟩
set_option maxRecDepth 100000 in
set_option maxHeartbeats 4000000 in
theorem says_9 (x : CellD) (a b : List CellD) (A B : Option Addr) (c d : Nat) (w : World) (hr : Reads w A (x :: a)) (hc : a.length + 1 ≤ c) :
    Calls Tryd.prog 109 #[.int .i64 9, agg2 A B (x :: a).length b.length c d] w fun e w' => e = .returned (.bool (decide (x.kind = 3))) ∧ Below w.heap.size w w' := by
  have HR := Lib.hid hr
  clear hr
  have hw : IntKind.i64.wrap (9 - 1) = 8 := by decide
  have hw1 : IntKind.i64.wrap 8 = 8 := by decide
  have hBB := (below_then (below_one w (.cells #[.slice A (a.length + 1) c, .slice B b.length d] 126)) (below_one _ (.cells #[Value.func (Fn.func 155) #[] #[], Value.func (Fn.func 156) #[] #[], Value.func (Fn.func 157) #[] #[], Value.func (Fn.func 158) #[] #[], Value.func (Fn.func 159) #[] #[], Value.func (Fn.func 160) #[] #[], Value.func (Fn.func 161) #[] #[], Value.func (Fn.func 162) #[] #[], Value.func (Fn.func 163) #[] #[], Value.func (Fn.func 164) #[] #[], Value.func (Fn.func 165) #[] #[], Value.func (Fn.func 166) #[] #[], Value.func (Fn.func 167) #[] #[]] 191))).drew
  go_enter Tryd.func109, Tryd.ntmps109
  go_wp2_with fail
  go_region_held3 (fun w' => w'.cell? ⟨w.heap.size, 0, none⟩ = some (.slice A (a.length + 1) c) ∧ w'.cell? ⟨w.heap.size, 1, none⟩ = some (.slice B b.length d) ∧ w'.cell? ⟨w.heap.size + 1, 8, none⟩ = some (Value.func (Fn.func 163) #[] #[]))
    (first | go_keep | exact ⟨by go_cell, by go_cell, by go_cell⟩ | exact ⟨cell_below hbc (by go_cell), cell_below hbc (by go_cell), cell_below hbc (by go_cell)⟩)
    ((go_at_call 163; refine (m_ref x a b A B c d _ (HR.out.below hBB) hc).mono ?_; rintro e wc ⟨rfl, hbc⟩))
  go_wp2
  go_ret
  exact ⟨rfl, below_then hBB hbc⟩
set_option maxRecDepth 100000 in
set_option maxHeartbeats 4000000 in
theorem says_10 (x : CellD) (a b : List CellD) (A B : Option Addr) (c d : Nat) (w : World) (hr : Reads w A (x :: a)) (hc : a.length + 1 ≤ c) :
    Calls Tryd.prog 109 #[.int .i64 10, agg2 A B (x :: a).length b.length c d] w fun e w' => e = .returned (.bool (decide (x.kind = 4))) ∧ Below w.heap.size w w' := by
  have HR := Lib.hid hr
  clear hr
  have hw : IntKind.i64.wrap (10 - 1) = 9 := by decide
  have hw1 : IntKind.i64.wrap 9 = 9 := by decide
  have hBB := (below_then (below_one w (.cells #[.slice A (a.length + 1) c, .slice B b.length d] 126)) (below_one _ (.cells #[Value.func (Fn.func 155) #[] #[], Value.func (Fn.func 156) #[] #[], Value.func (Fn.func 157) #[] #[], Value.func (Fn.func 158) #[] #[], Value.func (Fn.func 159) #[] #[], Value.func (Fn.func 160) #[] #[], Value.func (Fn.func 161) #[] #[], Value.func (Fn.func 162) #[] #[], Value.func (Fn.func 163) #[] #[], Value.func (Fn.func 164) #[] #[], Value.func (Fn.func 165) #[] #[], Value.func (Fn.func 166) #[] #[], Value.func (Fn.func 167) #[] #[]] 191))).drew
  go_enter Tryd.func109, Tryd.ntmps109
  go_wp2_with fail
  go_region_held3 (fun w' => w'.cell? ⟨w.heap.size, 0, none⟩ = some (.slice A (a.length + 1) c) ∧ w'.cell? ⟨w.heap.size, 1, none⟩ = some (.slice B b.length d) ∧ w'.cell? ⟨w.heap.size + 1, 9, none⟩ = some (Value.func (Fn.func 164) #[] #[]))
    (first | go_keep | exact ⟨by go_cell, by go_cell, by go_cell⟩ | exact ⟨cell_below hbc (by go_cell), cell_below hbc (by go_cell), cell_below hbc (by go_cell)⟩)
    ((go_at_call 164; refine (m_pid x a b A B c d _ (HR.out.below hBB) hc).mono ?_; rintro e wc ⟨rfl, hbc⟩))
  go_wp2
  go_ret
  exact ⟨rfl, below_then hBB hbc⟩
set_option maxRecDepth 100000 in
set_option maxHeartbeats 4000000 in
theorem says_11 (x : CellD) (a b : List CellD) (A B : Option Addr) (c d : Nat) (w : World) (hr : Reads w A (x :: a)) (hc : a.length + 1 ≤ c) :
    Calls Tryd.prog 109 #[.int .i64 11, agg2 A B (x :: a).length b.length c d] w fun e w' => e = .returned (.bool (decide (x.kind = 5))) ∧ Below w.heap.size w w' := by
  have HR := Lib.hid hr
  clear hr
  have hw : IntKind.i64.wrap (11 - 1) = 10 := by decide
  have hw1 : IntKind.i64.wrap 10 = 10 := by decide
  have hBB := (below_then (below_one w (.cells #[.slice A (a.length + 1) c, .slice B b.length d] 126)) (below_one _ (.cells #[Value.func (Fn.func 155) #[] #[], Value.func (Fn.func 156) #[] #[], Value.func (Fn.func 157) #[] #[], Value.func (Fn.func 158) #[] #[], Value.func (Fn.func 159) #[] #[], Value.func (Fn.func 160) #[] #[], Value.func (Fn.func 161) #[] #[], Value.func (Fn.func 162) #[] #[], Value.func (Fn.func 163) #[] #[], Value.func (Fn.func 164) #[] #[], Value.func (Fn.func 165) #[] #[], Value.func (Fn.func 166) #[] #[], Value.func (Fn.func 167) #[] #[]] 191))).drew
  go_enter Tryd.func109, Tryd.ntmps109
  go_wp2_with fail
  go_region_held3 (fun w' => w'.cell? ⟨w.heap.size, 0, none⟩ = some (.slice A (a.length + 1) c) ∧ w'.cell? ⟨w.heap.size, 1, none⟩ = some (.slice B b.length d) ∧ w'.cell? ⟨w.heap.size + 1, 10, none⟩ = some (Value.func (Fn.func 165) #[] #[]))
    (first | go_keep | exact ⟨by go_cell, by go_cell, by go_cell⟩ | exact ⟨cell_below hbc (by go_cell), cell_below hbc (by go_cell), cell_below hbc (by go_cell)⟩)
    ((go_at_call 165; refine (m_tuple x a b A B c d _ (HR.out.below hBB) hc).mono ?_; rintro e wc ⟨rfl, hbc⟩))
  go_wp2
  go_ret
  exact ⟨rfl, below_then hBB hbc⟩
set_option maxRecDepth 100000 in
set_option maxHeartbeats 4000000 in
theorem says_12 (x : CellD) (a b : List CellD) (A B : Option Addr) (c d : Nat) (w : World) (hr : Reads w A (x :: a)) (hc : a.length + 1 ≤ c) :
    Calls Tryd.prog 109 #[.int .i64 12, agg2 A B (x :: a).length b.length c d] w fun e w' => e = .returned (.bool (decide (x.kind = 6) || decide (x.kind = 7))) ∧ Below w.heap.size w w' := by
  have HR := Lib.hid hr
  clear hr
  have hw : IntKind.i64.wrap (12 - 1) = 11 := by decide
  have hw1 : IntKind.i64.wrap 11 = 11 := by decide
  have hBB := (below_then (below_one w (.cells #[.slice A (a.length + 1) c, .slice B b.length d] 126)) (below_one _ (.cells #[Value.func (Fn.func 155) #[] #[], Value.func (Fn.func 156) #[] #[], Value.func (Fn.func 157) #[] #[], Value.func (Fn.func 158) #[] #[], Value.func (Fn.func 159) #[] #[], Value.func (Fn.func 160) #[] #[], Value.func (Fn.func 161) #[] #[], Value.func (Fn.func 162) #[] #[], Value.func (Fn.func 163) #[] #[], Value.func (Fn.func 164) #[] #[], Value.func (Fn.func 165) #[] #[], Value.func (Fn.func 166) #[] #[], Value.func (Fn.func 167) #[] #[]] 191))).drew
  go_enter Tryd.func109, Tryd.ntmps109
  go_wp2_with fail
  go_region_held3 (fun w' => w'.cell? ⟨w.heap.size, 0, none⟩ = some (.slice A (a.length + 1) c) ∧ w'.cell? ⟨w.heap.size, 1, none⟩ = some (.slice B b.length d) ∧ w'.cell? ⟨w.heap.size + 1, 11, none⟩ = some (Value.func (Fn.func 166) #[] #[]))
    (first | go_keep | exact ⟨by go_cell, by go_cell, by go_cell⟩ | exact ⟨cell_below hbc (by go_cell), cell_below hbc (by go_cell), cell_below hbc (by go_cell)⟩)
    ((go_at_call 166; refine (m_list x a b A B c d _ (HR.out.below hBB) hc).mono ?_; rintro e wc ⟨rfl, hbc⟩))
  go_wp2
  go_ret
  exact ⟨rfl, below_then hBB hbc⟩
set_option maxRecDepth 100000 in
set_option maxHeartbeats 4000000 in
theorem says_13 (x : CellD) (a b : List CellD) (A B : Option Addr) (c d : Nat) (w : World) (hr : Reads w A (x :: a)) (hc : a.length + 1 ≤ c) :
    Calls Tryd.prog 109 #[.int .i64 13, agg2 A B (x :: a).length b.length c d] w fun e w' => e = .returned (.bool (decide (x.kind = 8))) ∧ Below w.heap.size w w' := by
  have HR := Lib.hid hr
  clear hr
  have hw : IntKind.i64.wrap (13 - 1) = 12 := by decide
  have hw1 : IntKind.i64.wrap 12 = 12 := by decide
  have hBB := (below_then (below_one w (.cells #[.slice A (a.length + 1) c, .slice B b.length d] 126)) (below_one _ (.cells #[Value.func (Fn.func 155) #[] #[], Value.func (Fn.func 156) #[] #[], Value.func (Fn.func 157) #[] #[], Value.func (Fn.func 158) #[] #[], Value.func (Fn.func 159) #[] #[], Value.func (Fn.func 160) #[] #[], Value.func (Fn.func 161) #[] #[], Value.func (Fn.func 162) #[] #[], Value.func (Fn.func 163) #[] #[], Value.func (Fn.func 164) #[] #[], Value.func (Fn.func 165) #[] #[], Value.func (Fn.func 166) #[] #[], Value.func (Fn.func 167) #[] #[]] 191))).drew
  go_enter Tryd.func109, Tryd.ntmps109
  go_wp2_with fail
  go_region_held3 (fun w' => w'.cell? ⟨w.heap.size, 0, none⟩ = some (.slice A (a.length + 1) c) ∧ w'.cell? ⟨w.heap.size, 1, none⟩ = some (.slice B b.length d) ∧ w'.cell? ⟨w.heap.size + 1, 12, none⟩ = some (Value.func (Fn.func 167) #[] #[]))
    (first | go_keep | exact ⟨by go_cell, by go_cell, by go_cell⟩ | exact ⟨cell_below hbc (by go_cell), cell_below hbc (by go_cell), cell_below hbc (by go_cell)⟩)
    ((go_at_call 167; refine (m_bin x a b A B c d _ (HR.out.below hBB) hc).mono ?_; rintro e wc ⟨rfl, hbc⟩))
  go_wp2
  go_ret
  exact ⟨rfl, below_then hBB hbc⟩
end Go.Proofs.YtefpolgflimlgaaDoor.Tm
