/- layer 13: known, and the walks of IdsMakes and IdsRefs. -/
import Derived.Test.YtofpbiadnbbaoaaIdD
namespace Go.Proofs.Ytofpbiadnbbaoaa.Ids
open Go.RowKit
set_option linter.unusedVariables false
set_option linter.unusedSimpArgs false

theorem PidsAt.alloc {W : World} {b c : Nat} {l : List (Int × Bool)} (h : PidsAt W b c l) (o : Obj) : PidsAt (W.alloc o) b c l := h.kept (World.grownBy_alloc _ _ none) (by simp) (by simp)
theorem PidsAt.below {W W' : World} {b c : Nat} {l : List (Int × Bool)} (h : PidsAt W b c l) (hB : Below W.heap.size W W') : PidsAt W' b c l := h.kept (grown_below hB none) (by simp) (by simp)
theorem heap_new (w : World) (o : Obj) : (w.alloc o).heap[w.heap.size]? = some o := by show (w.heap.push o)[_]? = _; simp
theorem RefsAt.kept {W W' : World} {b : Nat} {n : Int} {row : Option Nat} (h : RefsAt W b n) (hg : W.grownBy W' row) (hb : row ≠ some b) : RefsAt W' b n := (hg.block b (lt_of_block h) (fun e => hb e.symm)).trans h
theorem pids_new (w : World) (g : Int) : PidsAt ((w.alloc (gensOf (fresh g 64))).alloc (rowOf w.heap.size)) (w.heap.size + 1) w.heap.size (fresh g 64) := by
  refine ⟨?_, ?_, fresh_length g 64 (by omega)⟩
  · have := heap_new (w.alloc (gensOf (fresh g 64))) (rowOf w.heap.size)
    rwa [World.size_alloc] at this
  · rw [Below.heap_alloc _ _ _ (by simp)]; exact heap_new _ _

/-- Take, by the place that it finds. -/
theorem take_k (b c : Nat) (l : List (Int × Bool)) (w : World) (h : PidsAt w b c l) (hg : ∀ p ∈ l, 0 ≤ p.1) (k : Nat) (hk : k < l.length) (hno : ∀ j (hj : j < k), okP (l[j]'(Nat.lt_trans hj hk)) = false) (hyes : okP l[k] = true) :
    Calls Try.prog 38 #[.pointer (some ⟨b, 0, none⟩)] w fun e w' =>
        e = .returned (.tuple #[.int .i64 ((l[k]).1 * 64 + k + 1), .int .i64 0]) ∧ PidsAt w' b c (l.set k ((l[k]).1, true)) ∧ w.grownBy w' (some c) := by
  refine (take_any b c l w h hg).mono ?_
  rintro e w' (⟨k', hk', hno', hyes', he, hP, hG⟩ | ⟨hno', _, _⟩)
  · have : k' = k := by
      rcases Nat.lt_trichotomy k' k with h1 | h1 | h1
      · rw [hno k' h1] at hyes'; exact absurd hyes' (by simp)
      · exact h1
      · rw [hno' k h1] at hyes; exact absurd hyes (by simp)
    subst this
    exact ⟨he, hP, hG⟩
  · rw [hno' k hk] at hyes; exact absurd hyes (by simp)

theorem fresh_pos (g : Int) (hg : 0 ≤ g) : ∀ p ∈ fresh g 64, 0 ≤ p.1 := by
  intro p hp
  simp [fresh] at hp
  rw [hp]; exact hg

def tk1 : List (Int × Bool) := (0, true) :: List.replicate 63 (0, false)
def tk2 : List (Int × Bool) := (0, true) :: (0, true) :: List.replicate 62 (0, false)
theorem tk0_e : (fresh 0 64)[0]? = some (0, false) := by kernel_rfl
theorem tk1_e : (fresh 0 64).set 0 (0, true) = tk1 := by kernel_rfl
theorem tk2_e : tk1.set 1 (0, true) = tk2 := by kernel_rfl
theorem take0 (b c : Nat) (w : World) (h : PidsAt w b c (fresh 0 64)) :
    Calls Try.prog 38 #[.pointer (some ⟨b, 0, none⟩)] w fun e w' => e = .returned (.tuple #[.int .i64 1, .int .i64 0]) ∧ PidsAt w' b c tk1 ∧ w.grownBy w' (some c) := by
  have l0 : (fresh 0 64).length = 64 := fresh_length 0 64 (by omega)
  have e0 : (fresh 0 64)[0]'(by omega) = (0, false) := (List.getElem?_eq_some_iff.1 tk0_e).2
  refine (take_k b c (fresh 0 64) w h (fresh_pos 0 (by omega)) 0 (by omega) (fun j hj => absurd hj (Nat.not_lt_zero j)) (by rw [e0]; rfl)).mono ?_
  rintro e w' ⟨he, hP, hG⟩
  rw [e0] at he hP
  rw [tk1_e] at hP
  exact ⟨he, hP, hG⟩
theorem tk1_at (j : Nat) (h : j < tk1.length) : tk1[j] = (0, decide (j = 0)) := by
  cases j with
  | zero => rfl
  | succ j => exact List.getElem_replicate _
theorem take1 (b c : Nat) (w : World) (h : PidsAt w b c tk1) :
    Calls Try.prog 38 #[.pointer (some ⟨b, 0, none⟩)] w fun e w' => e = .returned (.tuple #[.int .i64 2, .int .i64 0]) ∧ PidsAt w' b c tk2 ∧ w.grownBy w' (some c) := by
  have l0 : tk1.length = 64 := by kernel_rfl
  refine (take_k b c tk1 w h (fun p hp => by simp [tk1] at hp; rcases hp with rfl | rfl <;> simp) 1 (by omega) (fun j hj => by rw [tk1_at]; simp [okP]; omega) (by rw [tk1_at]; rfl)).mono ?_
  rintro e w' ⟨he, hP, hG⟩
  rw [tk1_at] at he hP
  rw [tk2_e] at hP
  exact ⟨he, hP, hG⟩

set_option maxHeartbeats 400000 in
theorem known_any (w : World) : Calls Try.prog 24 #[] w fun e w' => e = .returned (.bool true) ∧ Below w.heap.size w w' := by
  have l0 : (fresh 0 64).length = 64 := fresh_length 0 64 (by omega)
  go_enter Try.func24, Try.ntmps24
  go_wp2_with fail
  refine (newPids_yes 0 _ (by omega) (by omega)).mono ?_
  rintro e w1 ⟨rfl, hw1⟩
  have P1 : PidsAt w1 (w.heap.size + 1) w.heap.size (fresh 0 64) := by rw [hw1]; exact pids_new w 0
  have B1 : Below w.heap.size w w1 := by rw [hw1]; exact below_alloc' ((Below.refl _ w).alloc (Nat.le_refl _) _) _
  have S1 : w1.heap.size = w.heap.size + 2 := by rw [hw1]; simp
  have S1' := Lib.hid S1
  clear hw1 S1
  go_wp2_with fail
  refine (newRefs_yes 5 _ (by omega) (by omega)).mono ?_
  rintro e w2 ⟨rfl, hw2⟩
  have P2 : PidsAt w2 (w.heap.size + 1) w.heap.size (fresh 0 64) := by rw [hw2]; exact P1.alloc _
  have B2 : Below w.heap.size w w2 := by rw [hw2]; exact below_alloc' B1 _
  have R2 : RefsAt w2 (w1.heap.size) 5 := by rw [hw2]; exact heap_new _ _
  have S1 := S1'.out
  clear hw2 P1 B1 S1' 
  have S1' : Hid (w1.heap.size ≠ w.heap.size ∧ w1.heap.size ≠ w.heap.size + 1 ∧ w.heap.size ≤ w1.heap.size) := by exact ⟨by omega, by omega, by omega⟩
  clear S1
  go_wp2_with fail
  refine (take0 _ _ _ P2).mono ?_
  rintro e w3 ⟨rfl, P3, G3⟩
  have B3 : Below w.heap.size w w3 := B2.grown G3 B2.size (fun k hk => by cases hk; exact Nat.le_refl _)
  have R3 := R2.kept G3 (by simp; exact fun e => S1'.out.1 e.symm)
  clear P2 B2 R2 G3
  go_wp2_with fail
  refine (take1 _ _ _ P3).mono ?_
  rintro e w4 ⟨rfl, P4, G4⟩
  have B4 : Below w.heap.size w w4 := B3.grown G4 B3.size (fun k hk => by cases hk; exact Nat.le_refl _)
  have R4 := R3.kept G4 (by simp; exact fun e => S1'.out.1 e.symm)
  clear P3 B3 R3 G4
  go_wp2_with fail
  refine (rmake_yes _ 5 _ R4 (by omega) (by omega)).mono ?_
  rintro e w5 ⟨rfl, hw5⟩
  have G5 : w4.grownBy w5 (some w1.heap.size) := by rw [hw5]; exact grown_setCell _ _ _ _
  have P5 := P4.kept G5 (by simp; exact S1'.out.2.1) (by simp; exact S1'.out.1)
  have B5 : Below w.heap.size w w5 := B4.grown G5 B4.size (fun k hk => by cases hk; exact S1'.out.2.2)
  clear P4 B4 R4 G5 hw5
  go_wp2_with fail
  refine (live_any _ _ 1 _ _ P5).mono ?_
  rintro e w6 ⟨rfl, rfl⟩
  rw [show liveP tk2 1 = true by kernel_rfl]
  go_wp2
  go_ret
  exact ⟨rfl, B5⟩
end Go.Proofs.Ytofpbiadnbbaoaa.Ids
