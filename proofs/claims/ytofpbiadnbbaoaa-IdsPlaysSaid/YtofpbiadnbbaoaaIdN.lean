/- layer 13: the reference's table. -/
import Derived.Test.YtofpbiadnbbaoaaIdL
import Derived.Deep.LoopGhost
namespace Go.Proofs.Ytofpbiadnbbaoaa.Ids
open Go.RowKit
set_option linter.unusedVariables false
set_option linter.unusedSimpArgs false

def rplc (l : List (Int × Bool)) : Array Value := (l.map (fun p => Value.int .i64 p.1) ++ l.map (fun p => Value.bool p.2)).toArray
theorem rplc_gen {l : List (Int × Bool)} (k : Nat) (hk : k < l.length) : (rplc l)[k]? = some (.int .i64 (l[k]).1) := by
  unfold rplc
  rw [List.getElem?_toArray, List.getElem?_append_left (by simpa using hk)]
  simp [hk]
theorem rplc_taken {l : List (Int × Bool)} (hl : l.length = 64) (k : Nat) (hk : k < l.length) : (rplc l)[64 + k]? = some (.bool (l[k]).2) := by
  unfold rplc
  rw [List.getElem?_toArray, List.getElem?_append_right (by simp; omega)]
  simp [hl, hk, show k < 64 by omega]
theorem rplc_set_gen {l : List (Int × Bool)} (k : Nat) (hk : k < l.length) (g : Int) : (rplc l).setIfInBounds k (.int .i64 g) = rplc (l.set k (g, (l[k]).2)) := by
  apply Array.toList_inj.1
  rw [Array.toList_setIfInBounds]
  show (l.map _ ++ l.map _).set k _ = _
  rw [List.set_append_left _ _ (by simpa using hk)]
  show _ = (l.set k _).map _ ++ (l.set k _).map _
  rw [List.map_set, List.map_set]
  congr 1
  refine (List.ext_getElem? fun i => ?_)
  rw [List.getElem?_set]
  split
  · next e => subst e; simp [hk]
  · rfl
theorem rplc_set_taken {l : List (Int × Bool)} (hl : l.length = 64) (k : Nat) (hk : k < l.length) (t : Bool) : (rplc l).setIfInBounds (64 + k) (.bool t) = rplc (l.set k ((l[k]).1, t)) := by
  apply Array.toList_inj.1
  rw [Array.toList_setIfInBounds]
  show (l.map _ ++ l.map _).set (64 + k) _ = _
  rw [List.set_append_right _ _ (by simp; omega)]
  show _ = (l.set k _).map _ ++ (l.set k _).map _
  rw [List.map_set, List.map_set]
  have e : 64 + k - (l.map fun p => Value.int .i64 p.1).length = k := by simp; omega
  rw [e]
  congr 1
  refine (List.ext_getElem? fun i => ?_)
  rw [List.getElem?_set]
  split
  · next e => subst e; simp [hk]
  · rfl
/-- The reference's table, in block b. -/
structure RAt (W : World) (b : Nat) (l : List (Int × Bool)) : Prop where
  top : W.heap[b]? = some (.cells (rplc l) 79 (0, 0))
  len : l.length = 64
theorem RAt.gen {W : World} {b : Nat} {l : List (Int × Bool)} (h : RAt W b l) (k : Nat) (hk : k < l.length) : W.cell? ⟨b, k, none⟩ = some (.int .i64 (l[k]).1) := by
  have := rplc_gen k hk
  simp [World.cell?, h.top, this]
theorem RAt.taken {W : World} {b : Nat} {l : List (Int × Bool)} (h : RAt W b l) (k : Nat) (hk : k < l.length) : W.cell? ⟨b, 64 + k, none⟩ = some (.bool (l[k]).2) := by
  have := rplc_taken h.len k hk
  simp [World.cell?, h.top, this]
theorem RAt.free {W : World} {b : Nat} {l : List (Int × Bool)} (h : RAt W b l) (k : Nat) : W.frozen? ⟨b, k, none⟩ = false := by
  simp [World.frozen?, h.top]
theorem RAt.lt {W : World} {b : Nat} {l : List (Int × Bool)} (h : RAt W b l) : b < W.heap.size := lt_of_block h.top
theorem RAt.kept {W W' : World} {b : Nat} {l : List (Int × Bool)} {row : Option Nat} (h : RAt W b l) (hg : W.grownBy W' row) (hb : row ≠ some b) : RAt W' b l :=
  ⟨(hg.block b h.lt (fun e => hb e.symm)).trans h.top, h.len⟩
theorem RAt.below {W W' : World} {b : Nat} {l : List (Int × Bool)} (h : RAt W b l) (hB : Below W.heap.size W W') : RAt W' b l := h.kept (grown_below hB none) (by simp)
theorem RAt.setTaken {W : World} {b : Nat} {l : List (Int × Bool)} (h : RAt W b l) (k : Nat) (hk : k < l.length) (x : Bool) : RAt (W.setCell ⟨b, 64 + k, none⟩ (.bool x)) b (l.set k ((l[k]).1, x)) :=
  ⟨by rw [heap_setCell_self h.top, rplc_set_taken h.len k hk], by simp [h.len]⟩
theorem RAt.setGen {W : World} {b : Nat} {l : List (Int × Bool)} (h : RAt W b l) (k : Nat) (hk : k < l.length) (x : Int) : RAt (W.setCell ⟨b, k, none⟩ (.int .i64 x)) b (l.set k (x, (l[k]).2)) :=
  ⟨by rw [heap_setCell_self h.top, rplc_set_gen k hk], by simp [h.len]⟩

theorem rNew_no (g : Int) (w : World) (h : g < 0 ∨ 17179869183 < g) :
    Calls Try.prog 41 #[.int .i64 g] w fun e w' => e = .returned (.pointer none) ∧ w = w' := by
  by_cases h0 : g < 0 <;> by_cases h1 : 17179869183 < g
  all_goals first | (exfalso; omega) | skip
  all_goals
    clear h
    go_enter Try.func41, Try.ntmps41
    go_wp2
    go_ret
    exact ⟨rfl, rfl⟩
theorem run_zero {P : Program} (w : World) {t : TypeId} {i : TypeInfo} {v : Value} (hi : P.info? t = some i) (hz : i.zero = some v) : (zeroValue t).run P w = .ok v w := by
  simp [zeroValue, typeInfo, hi, hz]
def rzero : Value := .agg (rplc (fresh 0 0))
theorem info79 : (Try.prog.info? 79).map (fun i => (i.zero, i.size, i.bytes)) = some (some rzero, 128, 576) := by kernel_rfl
theorem fresh00 (g : Int) : fresh 0 0 = fresh g 0 := rfl
set_option maxHeartbeats 1000000 in
set_option maxRecDepth 100000 in
theorem rNew_yes (g : Int) (w : World) (h0 : 0 ≤ g) (h1 : g ≤ 17179869183) :
    Calls Try.prog 41 #[.int .i64 g] w fun e w' => e = .returned (.pointer (some ⟨w.heap.size, 0, none⟩)) ∧ w' = w.alloc (.cells (rplc (fresh g 64)) 79) := by
  obtain ⟨i0, hi, hz0, hz1, hz2⟩ := info_parts info79
  have hz := fun W => run_zero (P := Try.prog) W hi hz0
  have hr : rzero = .agg (rplc (fresh g 0)) := rfl
  rw [hr] at hz
  clear hr hz0 hz1 hz2 hi
  go_enter Try.func41, Try.ntmps41
  go_wp2_with fail
  go_loopw [4] (fun i wr => ∃ k : Nat, k ≤ 64 ∧ i = .int .i64 k ∧ wr = w.alloc (.cells (rplc (fresh g k)) 79)) (fun i wr => 64 - (intOf i).toNat)
  case atStart => exact ⟨0, by omega, rfl, rfl⟩
  case round =>
    obtain ⟨k, hk, rfl, rfl⟩ := hrel
    by_cases hlt : k < 64
    · have hl := fresh_length g k (by omega)
      have c0 := rplc_gen (l := fresh g k) k (by omega)
      go_wp2
      go_roundw
      case rel => exact ⟨k + 1, by omega, by go_num, by rw [rplc_set_gen _ (by omega), fresh_at g k hlt, fresh_set g k hlt]⟩
      case measure => simp [intOf]; omega
    · obtain rfl : k = 64 := by omega
      go_wp2
      go_ret
      exact ⟨rfl, rfl⟩
end Go.Proofs.Ytofpbiadnbbaoaa.Ids
