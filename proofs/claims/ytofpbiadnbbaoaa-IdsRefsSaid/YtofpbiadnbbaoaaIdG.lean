/- layer 13: the walk of IdsRefs. -/
import Derived.Test.YtofpbiadnbbaoaaIdE
import Derived.Deep.LoopGhost
namespace Go.Proofs.Ytofpbiadnbbaoaa.Ids
open Go.RowKit
set_option linter.unusedVariables false

set_option maxHeartbeats 1000000 in
set_option maxRecDepth 100000 in
theorem idsRefs_no (f t : Int) (w : World) (h : f < 1 ∨ 281474976710657 < f) :
    Calls Try.prog 6 #[.int .i64 f, .int .i64 t] w fun e w' => e = .returned (.bool true) ∧ Below w.heap.size w w' := by
  have h' := Lib.hid h
  by_cases h0 : f < 1 <;> by_cases h1 : 281474976710657 < f
  all_goals first | (exfalso; omega) | skip
  all_goals
    clear h
    go_enter Try.func6, Try.ntmps6
    go_wp2_with fail
    refine (newRefs_no f _ h'.out).mono ?_
    rintro e w' ⟨rfl, rfl⟩
    go_wp2_with fail
    refine (known_any _).mono ?_
    rintro e w' ⟨rfl, hB⟩
    go_wp2
    go_ret
    exact ⟨rfl, hB⟩

set_option maxHeartbeats 1000000 in
set_option maxRecDepth 100000 in
theorem idsRefs_yes (f t : Int) (w : World) (h0 : 1 ≤ f) (h1 : f ≤ 281474976710657) :
    Calls Try.prog 6 #[.int .i64 f, .int .i64 t] w fun e w' => e = .returned (.bool true) ∧ Below w.heap.size w w' := by
  go_enter Try.func6, Try.ntmps6
  go_wp2_with fail
  refine (newRefs_yes f _ h0 h1).mono ?_
  rintro e w1 ⟨rfl, hw1⟩
  have R1 : RefsAt w1 w.heap.size f := by rw [hw1]; exact heap_new _ _
  have B1 : Below w.heap.size w w1 := by rw [hw1]; exact (Below.refl _ w).alloc (Nat.le_refl _) _
  clear hw1
  go_wp2_with fail
  refine (left_any _ f _ R1 h0 h1).mono ?_
  rintro e w' ⟨rfl, rfl⟩
  go_wp2_with fail
  go_loopw [6, 7] (fun n i wr => ∃ (k : Nat) (m : Int), k ≤ 200 ∧ 1 ≤ m ∧ m ≤ 281474976710657 ∧ i = .int .i64 k ∧ n = .int .i64 m ∧ RefsAt wr w.heap.size m ∧ Below w.heap.size w wr) (fun n i wr => 200 - (intOf i).toNat)
  case atStart => exact ⟨0, f, by omega, h0, h1, rfl, rfl, R1, B1⟩
  case round =>
    obtain ⟨k, m, hk, hm0, hm1, rfl, rfl, hR, hB⟩ := hrel
    by_cases hlt : (k : Int) < t ∧ k < 200
    · obtain ⟨hlt, h200⟩ := hlt
      by_cases hs : 281474976710656 < m
      · obtain rfl : m = 281474976710657 := by omega
        go_wp2_with fail
        refine (rmake_spent _ _ _ hR (by omega)).mono ?_
        rintro e w' ⟨rfl, rfl⟩
        go_wp2_with fail
        refine (left_any _ _ _ hR (by omega) (by omega)).mono ?_
        rintro e w' ⟨rfl, rfl⟩
        go_wp2
        go_roundw
        case rel => exact ⟨k + 1, _, by omega, by omega, by omega, by go_num, rfl, hR, hB⟩
        case measure => simp [intOf]; omega
      · go_wp2_with fail
        refine (rmake_yes _ _ _ hR hm0 (by omega)).mono ?_
        rintro e w2 ⟨rfl, hw2⟩
        have R2 : RefsAt w2 w.heap.size (m + 1) := by rw [hw2]; exact one_setCell hR
        have B2 : Below w.heap.size w w2 := by rw [hw2]; exact hB.setCell (p := ⟨w.heap.size, 0, none⟩) (Nat.le_refl _) _
        clear hw2
        go_wp2_with fail
        refine (left_any _ _ _ R2 (by omega) (by omega)).mono ?_
        rintro e w' ⟨rfl, rfl⟩
        go_wp2
        go_roundw
        case rel => exact ⟨k + 1, m + 1, by omega, by omega, by omega, by go_num, rfl, R2, B2⟩
        case measure => simp [intOf]; omega
    · by_cases h5 : (k : Int) < t
      · have h6 : ¬ k < 200 := by omega
        clear hlt
        go_wp2_with fail
        refine (known_any _).mono ?_
        rintro e w' ⟨rfl, hB2⟩
        go_wp2
        go_ret
        exact ⟨rfl, hB.trans (hB2.mono hB.size)⟩
      · clear hlt
        go_wp2_with fail
        refine (known_any _).mono ?_
        rintro e w' ⟨rfl, hB2⟩
        go_wp2
        go_ret
        exact ⟨rfl, hB.trans (hB2.mono hB.size)⟩
theorem idsRefs_any (f t : Int) (w : World) :
    Calls Try.prog 6 #[.int .i64 f, .int .i64 t] w fun e w' => e = .returned (.bool true) ∧ Below w.heap.size w w' := by
  by_cases h : f < 1 ∨ 281474976710657 < f
  · exact idsRefs_no f t w h
  · exact idsRefs_yes f t w (by omega) (by omega)
end Go.Proofs.Ytofpbiadnbbaoaa.Ids
