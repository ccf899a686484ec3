/- Contracts of layer 13: numbers, the counter of references, the table of places. -/
import Derived.Lib.Hide
import Derived.Test.YtofpbiadnbbaoaaIdA
namespace Go.Proofs.Ytofpbiadnbbaoaa.Ids
open Go.RowKit
set_option linter.unusedVariables false
set_option linter.unusedSimpArgs false

def mkP (p g : Int) : Int × Int := if p < 0 ∨ 64 ≤ p ∨ g < 0 ∨ 17179869183 < g then (0, 1) else (g * 64 + p + 1, 0)
theorem ret2_int {a b c d : Int} (h : (a, b) = (c, d)) : Ending.returned (.tuple #[.int .i64 a, .int .i64 b]) = .returned (.tuple #[.int .i64 c, .int .i64 d]) := by
  obtain ⟨rfl, rfl⟩ := Prod.mk.inj h; rfl
theorem mkP_no {p g : Int} (h : p < 0 ∨ 64 ≤ p ∨ g < 0 ∨ 17179869183 < g) : mkP p g = (0, 1) := if_pos h
theorem mkP_yes {p g : Int} (a : 0 ≤ p) (b : p < 64) (c : 0 ≤ g) (d : g ≤ 17179869183) : mkP p g = (g * 64 + p + 1, 0) := if_neg (by omega)

set_option maxHeartbeats 400000 in
theorem make_any (p g : Int) (w : World) :
    Calls Try.prog 20 #[.int .i64 p, .int .i64 g] w fun e w' => e = .returned (.tuple #[.int .i64 (mkP p g).1, .int .i64 (mkP p g).2]) ∧ w = w' := by
  by_cases h : p < 0 ∨ 64 ≤ p ∨ g < 0 ∨ 17179869183 < g
  · have H := Lib.hid (mkP_no h)
    have h' := Lib.hid h
    clear h
    rcases h'.out with h | h | h | h
    · go_enter Try.func20, Try.ntmps20
      go_wp2
      go_ret2
      exact ⟨by first | (rw [H.out]; rfl) | rw [H.out], rfl⟩
    · have h0 : ¬ p < 0 := by omega
      go_enter Try.func20, Try.ntmps20
      go_wp2
      go_ret2
      exact ⟨by first | (rw [H.out]; rfl) | rw [H.out], rfl⟩
    · by_cases h0 : p < 0 <;> by_cases h1 : 64 ≤ p
      all_goals
        go_enter Try.func20, Try.ntmps20
        go_wp2
        go_ret2
        exact ⟨by first | (rw [H.out]; rfl) | rw [H.out], rfl⟩
    · by_cases h0 : p < 0 <;> by_cases h1 : 64 ≤ p <;> by_cases h2 : g < 0
      all_goals
        go_enter Try.func20, Try.ntmps20
        go_wp2
        go_ret2
        exact ⟨by first | (rw [H.out]; rfl) | rw [H.out], rfl⟩
  · have h1 : 0 ≤ p := by omega
    have h2 : p < 64 := by omega
    have h3 : 0 ≤ g := by omega
    have h4 : g ≤ 17179869183 := by omega
    have H := Lib.hid (mkP_yes h1 h2 h3 h4)
    clear h
    go_enter Try.func20, Try.ntmps20
    go_wp2
    go_ret2
    exact ⟨by first | (rw [H.out]; rfl) | rw [H.out], rfl⟩

theorem refMake_any (p g : Int) (w : World) :
    Calls Try.prog 21 #[.int .i64 p, .int .i64 g] w fun e w' => e = .returned (.tuple #[.int .i64 (mkP p g).1, .int .i64 (mkP p g).2]) ∧ w = w' := by
  by_cases h : p < 0 ∨ 64 ≤ p ∨ g < 0 ∨ 17179869183 < g
  · have H := Lib.hid (mkP_no h)
    by_cases h0 : p < 0 <;> by_cases h1 : 64 ≤ p <;> by_cases h2 : g < 0 <;> by_cases h3 : 17179869183 < g
    all_goals first | (exfalso; omega) | skip
    all_goals
      clear h
      go_enter Try.func21, Try.ntmps21
      go_wp2
      go_ret2
      exact ⟨by first | (rw [H.out]; rfl) | rw [H.out], rfl⟩
  · have h1 : 0 ≤ p := by omega
    have h2 : p < 64 := by omega
    have h3 : 0 ≤ g := by omega
    have h4 : g ≤ 17179869183 := by omega
    have H := Lib.hid (mkP_yes h1 h2 h3 h4)
    clear h
    go_enter Try.func21, Try.ntmps21
    go_wp2
    go_ret2
    exact ⟨by first | (rw [H.out]; rfl) | rw [H.out], rfl⟩

def spP (x : Int) : Int × Int × Int := if x < 1 ∨ 1099511627776 < x then (0, 0, 131) else ((x - 1) % 64, (x - 1) / 64, 0)
theorem spP_no {x : Int} (h : x < 1 ∨ 1099511627776 < x) : spP x = (0, 0, 131) := if_pos h
theorem spP_yes {x : Int} (a : 1 ≤ x) (b : x ≤ 1099511627776) : spP x = ((x - 1) % 64, (x - 1) / 64, 0) := if_neg (by omega)
set_option maxHeartbeats 400000 in
theorem split_any (x : Int) (w : World) :
    Calls Try.prog 22 #[.int .i64 x] w fun e w' => e = .returned (.tuple #[.int .i64 (spP x).1, .int .i64 (spP x).2.1, .int .i64 (spP x).2.2]) ∧ w = w' := by
  by_cases h : x < 1 ∨ 1099511627776 < x
  · have H := Lib.hid (spP_no h)
    by_cases h0 : x < 1 <;> by_cases h1 : 1099511627776 < x
    all_goals first | (exfalso; omega) | skip
    all_goals
      clear h
      go_enter Try.func22, Try.ntmps22
      go_wp2
      go_ret3
      exact ⟨by first | (rw [H.out]; rfl) | rw [H.out], rfl⟩
  · have h1 : 1 ≤ x := by omega
    have h2 : x ≤ 1099511627776 := by omega
    have H := Lib.hid (spP_yes h1 h2)
    clear h
    go_enter Try.func22, Try.ntmps22
    go_wp2
    go_ret3
    exact ⟨by first | (rw [H.out]; rfl) | rw [H.out], rfl⟩
set_option maxHeartbeats 400000 in
theorem refSplit_any (x : Int) (w : World) :
    Calls Try.prog 23 #[.int .i64 x] w fun e w' => e = .returned (.tuple #[.int .i64 (spP x).1, .int .i64 (spP x).2.1, .int .i64 (spP x).2.2]) ∧ w = w' := by
  by_cases h : x < 1 ∨ 1099511627776 < x
  · have H := Lib.hid (spP_no h)
    by_cases h0 : x < 1 <;> by_cases h1 : 1099511627776 < x
    all_goals first | (exfalso; omega) | skip
    all_goals
      clear h
      go_enter Try.func23, Try.ntmps23
      go_wp2
      go_ret3
      exact ⟨by first | (rw [H.out]; rfl) | rw [H.out], rfl⟩
  · have h1 : 1 ≤ x := by omega
    have h2 : x ≤ 1099511627776 := by omega
    have H := Lib.hid (spP_yes h1 h2)
    clear h
    go_enter Try.func23, Try.ntmps23
    go_wp2
    go_ret3
    exact ⟨by first | (rw [H.out]; rfl) | rw [H.out], rfl⟩

/-- A counter of references in block b: its next number. -/
def RefsAt (W : World) (b : Nat) (n : Int) : Prop := W.heap[b]? = some (.cells #[.int .i64 n] 67 (0, 0))
theorem RefsAt.cell {W : World} {b : Nat} {n : Int} (h : RefsAt W b n) : W.cell? ⟨b, 0, none⟩ = some (.int .i64 n) := cell_of_one h
theorem RefsAt.free {W : World} {b : Nat} {n : Int} (h : RefsAt W b n) : W.frozen? ⟨b, 0, none⟩ = false := free_of_one h
theorem newRefs_no (n : Int) (w : World) (h : n < 1 ∨ 281474976710657 < n) :
    Calls Try.prog 32 #[.int .i64 n] w fun e w' => e = .returned (.pointer none) ∧ w = w' := by
  by_cases h0 : n < 1 <;> by_cases h1 : 281474976710657 < n
  all_goals first | (exfalso; omega) | skip
  all_goals
    clear h
    go_enter Try.func32, Try.ntmps32
    go_wp2
    go_ret
    exact ⟨rfl, rfl⟩
theorem newRefs_yes (n : Int) (w : World) (h0 : 1 ≤ n) (h1 : n ≤ 281474976710657) :
    Calls Try.prog 32 #[.int .i64 n] w fun e w' => e = .returned (.pointer (some ⟨w.heap.size, 0, none⟩)) ∧ w' = w.alloc (.cells #[.int .i64 n] 67) := by
  go_enter Try.func32, Try.ntmps32
  go_wp2
  go_ret
  exact ⟨rfl, rfl⟩
theorem left_nil (w : World) : Calls Try.prog 33 #[.pointer none] w fun e w' => e = .returned (.int .i64 0) ∧ w = w' := by
  go_enter Try.func33, Try.ntmps33
  go_wp2
  go_ret
  exact ⟨rfl, rfl⟩
theorem left_any (b : Nat) (n : Int) (w : World) (h : RefsAt w b n) (h0 : 1 ≤ n) (h1 : n ≤ 281474976710657) :
    Calls Try.prog 33 #[.pointer (some ⟨b, 0, none⟩)] w fun e w' => e = .returned (.int .i64 (281474976710657 - n)) ∧ w = w' := by
  have hc := h.cell
  go_enter Try.func33, Try.ntmps33
  go_wp2
  go_ret
  exact ⟨rfl, rfl⟩
theorem rmake_nil (w : World) : Calls Try.prog 34 #[.pointer none] w fun e w' => e = .returned (.tuple #[.int .i64 0, .int .i64 2]) ∧ w = w' := by
  go_enter Try.func34, Try.ntmps34
  go_wp2
  go_ret2
  exact ⟨rfl, rfl⟩
theorem rmake_spent (b : Nat) (n : Int) (w : World) (h : RefsAt w b n) (h1 : 281474976710656 < n) :
    Calls Try.prog 34 #[.pointer (some ⟨b, 0, none⟩)] w fun e w' => e = .returned (.tuple #[.int .i64 0, .int .i64 130]) ∧ w = w' := by
  have hc := h.cell
  go_enter Try.func34, Try.ntmps34
  go_wp2
  go_ret2
  exact ⟨rfl, rfl⟩
theorem rmake_yes (b : Nat) (n : Int) (w : World) (h : RefsAt w b n) (h0 : 1 ≤ n) (h1 : n ≤ 281474976710656) :
    Calls Try.prog 34 #[.pointer (some ⟨b, 0, none⟩)] w fun e w' => e = .returned (.tuple #[.int .i64 n, .int .i64 0]) ∧ w' = w.setCell ⟨b, 0, none⟩ (.int .i64 (n + 1)) := by
  have hc := h.cell
  have hf := h.free
  go_enter Try.func34, Try.ntmps34
  go_wp2
  go_ret2
  exact ⟨by first | rfl | simp, rfl⟩

end Go.Proofs.Ytofpbiadnbbaoaa.Ids
