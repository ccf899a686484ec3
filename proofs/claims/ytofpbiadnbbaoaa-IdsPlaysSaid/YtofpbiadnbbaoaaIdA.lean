/- Contracts of the functions of layer 13 (ids): a table of places in memory. -/
import Derived.Test.YtofpbiadnbbaoaaRows
import Derived.WalkKit
namespace Go.Proofs.Ytofpbiadnbbaoaa.Ids
open Go.RowKit
set_option linter.unusedVariables false
set_option linter.unusedSimpArgs false

/-- A row of places, cell by cell. -/
def plc (l : List (Int × Bool)) : Array Value := (l.flatMap fun p => [.int .i64 p.1, .bool p.2]).toArray
theorem plc_size (l : List (Int × Bool)) : (plc l).size = 2 * l.length := by
  unfold plc
  induction l with
  | nil => rfl
  | cons a l ih => simp at ih ⊢; omega
theorem plc_cons (a : Int × Bool) (l : List (Int × Bool)) : (plc (a :: l)).toList = .int .i64 a.1 :: .bool a.2 :: (plc l).toList := by simp [plc]
theorem plc_gen (l : List (Int × Bool)) : ∀ k (h : k < l.length), (plc l).toList[2 * k]? = some (.int .i64 (l[k]).1) := by
  induction l with
  | nil => intro k h; simp at h
  | cons a l ih =>
    intro k h
    rw [plc_cons]
    cases k with
    | zero => rfl
    | succ k =>
      have := ih k (by simpa using h)
      rw [show 2 * (k + 1) = 2 * k + 1 + 1 by omega]
      simpa using this
theorem plc_taken (l : List (Int × Bool)) : ∀ k (h : k < l.length), (plc l).toList[2 * k + 1]? = some (.bool (l[k]).2) := by
  induction l with
  | nil => intro k h; simp at h
  | cons a l ih =>
    intro k h
    rw [plc_cons]
    cases k with
    | zero => rfl
    | succ k =>
      have := ih k (by simpa using h)
      rw [show 2 * (k + 1) + 1 = 2 * k + 1 + 1 + 1 by omega]
      simpa using this
theorem plc_set_gen (l : List (Int × Bool)) : ∀ k (h : k < l.length) (g : Int), (plc l).toList.set (2 * k) (.int .i64 g) = (plc (l.set k (g, (l[k]).2))).toList := by
  induction l with
  | nil => intro k h; simp at h
  | cons a l ih =>
    intro k h g
    cases k with
    | zero => rfl
    | succ k =>
      have := ih k (by simpa using h) g
      rw [plc_cons, show 2 * (k + 1) = 2 * k + 1 + 1 by omega, List.set_cons_succ, List.set_cons_succ, List.set_cons_succ, plc_cons, this]
      rfl
theorem plc_set_taken (l : List (Int × Bool)) : ∀ k (h : k < l.length) (b : Bool), (plc l).toList.set (2 * k + 1) (.bool b) = (plc (l.set k ((l[k]).1, b))).toList := by
  induction l with
  | nil => intro k h; simp at h
  | cons a l ih =>
    intro k h b
    cases k with
    | zero => rfl
    | succ k =>
      have := ih k (by simpa using h) b
      rw [plc_cons, show 2 * (k + 1) + 1 = 2 * k + 1 + 1 + 1 by omega, List.set_cons_succ, List.set_cons_succ, List.set_cons_succ, plc_cons, this]
      rfl
theorem plc_gen' (l : List (Int × Bool)) (k : Nat) (h : k < l.length) : (plc l)[k * 2]? = some (.int .i64 (l[k]).1) := by
  rw [← Array.getElem?_toList, Nat.mul_comm]; exact plc_gen l k h
theorem plc_taken' (l : List (Int × Bool)) (k : Nat) (h : k < l.length) : (plc l)[k * 2 + 1]? = some (.bool (l[k]).2) := by
  rw [← Array.getElem?_toList, Nat.mul_comm]; exact plc_taken l k h
theorem plc_set_gen' (l : List (Int × Bool)) (k : Nat) (h : k < l.length) (g : Int) : (plc l).setIfInBounds (k * 2) (.int .i64 g) = plc (l.set k (g, (l[k]).2)) := by
  apply Array.toList_inj.1
  rw [Array.toList_setIfInBounds, Nat.mul_comm]; exact plc_set_gen l k h g
theorem plc_set_taken' (l : List (Int × Bool)) (k : Nat) (h : k < l.length) (b : Bool) : (plc l).setIfInBounds (k * 2 + 1) (.bool b) = plc (l.set k ((l[k]).1, b)) := by
  apply Array.toList_inj.1
  rw [Array.toList_setIfInBounds, Nat.mul_comm]; exact plc_set_taken l k h b

/-- The generations after k rounds of NewPids' loop. -/
def fresh (g : Int) (k : Nat) : List (Int × Bool) := List.replicate k (g, false) ++ List.replicate (64 - k) (0, false)
theorem fresh_length (g : Int) (k : Nat) (h : k ≤ 64) : (fresh g k).length = 64 := by simp [fresh]; omega
theorem fresh_set (g : Int) (k : Nat) (h : k < 64) : (fresh g k).set k (g, false) = fresh g (k + 1) := by
  unfold fresh
  rw [List.set_append_right _ _ (by simp)]
  obtain ⟨m, hm⟩ : ∃ m, 64 - k = m + 1 := ⟨64 - k - 1, by omega⟩
  rw [hm, List.length_replicate, Nat.sub_self, List.replicate_succ, List.set_cons_zero, show 64 - (k + 1) = m by omega, List.replicate_succ', List.append_assoc]
  rfl
theorem fresh_at (g : Int) (k : Nat) (h : k < 64) (h' : k < (fresh g k).length) : (fresh g k)[k] = (0, false) := by
  have e : (fresh g k)[k]? = some (0, false) := by
    unfold fresh
    rw [List.getElem?_append_right (by simp), List.getElem?_replicate]
    simp; omega
  exact (List.getElem?_eq_some_iff.1 e).2
theorem made_fresh (g : Int) : madeCells #[.int .i64 0, .bool false] 128 = plc (fresh g 0) := by
  kernel_rfl

theorem Try.info72 : (Try.prog.info? 72).map (fun i => (i.zero, i.size, i.bytes)) = some (some (.agg #[.int .i64 0, .bool false]), 2, 16) := by kernel_rfl
theorem Try.info70 : (Try.prog.info? 70).map (fun i => (i.zero, i.size, i.bytes)) = some (some (.agg #[.slice none 0 0]), 1, 24) := by kernel_rfl
/-- The struct's block. -/
def rowOf (c : Nat) : Obj := .cells #[.slice (some ⟨c, 0, none⟩) 64 64] 70 (0, 0)
def gensOf (l : List (Int × Bool)) : Obj := .cells (plc l) 72 (0, 0)

set_option maxHeartbeats 400000 in
theorem newPids_no (g : Int) (w : World) (h : g < 0 ∨ 17179869183 < g) :
    Calls Try.prog 36 #[.int .i64 g] w fun e w' => e = .returned (.pointer none) ∧ w = w' := by
  rcases h with h | h
  · go_enter Try.func36, Try.ntmps36
    go_wp2
    go_ret
    exact ⟨rfl, rfl⟩
  · have h0 : ¬ g < 0 := by omega
    go_enter Try.func36, Try.ntmps36
    go_wp2
    go_ret
    exact ⟨rfl, rfl⟩

set_option maxHeartbeats 400000 in
theorem newPids_yes (g : Int) (w : World) (h0 : 0 ≤ g) (h1 : g ≤ 17179869183) :
    Calls Try.prog 36 #[.int .i64 g] w fun e w' => e = .returned (.pointer (some ⟨w.heap.size + 1, 0, none⟩)) ∧ w' = (w.alloc (gensOf (fresh g 64))).alloc (rowOf w.heap.size) := by
  obtain ⟨i0, hi, hz0, hz1, hz2⟩ := info_parts Try.info72
  have hm := run_make (P := Try.prog) w 68 72 i0 _ Try.underlying68 hi hz0 .i64 .i64 64 64 (by omega) (by omega) (by rw [hz2]; omega) (by omega)
  rw [hz1] at hm
  have hmm : madeCells (Value.agg #[.int .i64 0, .bool false]).cells ((64 : Int).toNat * 2) = plc (fresh g 0) := made_fresh g
  rw [hmm] at hm
  clear hmm
  go_enter Try.func36, Try.ntmps36
  go_wp2_with fail
  go_loopw [19] (fun i wr => ∃ k : Nat, k ≤ 64 ∧ i = .int .i64 k ∧ wr = (w.alloc (.cells (plc (fresh g k)) 72)).alloc (.cells #[.slice (some ⟨w.heap.size, 0, none⟩) 64 64] 70)) (fun i wr => 64 - (intOf i).toNat)
  case atStart => exact ⟨0, by omega, rfl, rfl⟩
  case round =>
    obtain ⟨k, hk, rfl, rfl⟩ := hrel
    by_cases hlt : k < 64
    · have hl := fresh_length g k (by omega)
      have c0 := plc_gen' (fresh g k) k (by omega)
      go_wp2
      go_roundw
      case rel => exact ⟨k + 1, by omega, by go_num, by rw [plc_set_gen' _ _ (by omega), fresh_at g k hlt, fresh_set g k hlt]⟩
      case measure => simp [intOf]; omega
    · obtain rfl : k = 64 := by omega
      go_wp2
      go_ret
      exact ⟨rfl, rfl⟩
end Go.Proofs.Ytofpbiadnbbaoaa.Ids
