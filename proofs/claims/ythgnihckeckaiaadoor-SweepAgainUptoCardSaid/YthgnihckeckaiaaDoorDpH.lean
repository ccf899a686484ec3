/- Arena's Clear. -/
import Derived.Test.YthgnihckeckaiaaDoorDpI
namespace Go.Proofs.YthgnihckeckaiaaDoor.Tm
open Go.RowKit
set_option linter.unusedVariables false
set_option linter.unusedSimpArgs false

theorem clear_final {w : World} {O : Nat → Prop} {ba room : Nat} {l : List ObjA} {bm : Nat} {vO vW : Value} {vs : List Value} (hR : ArRep w O ba room l bm vO vW vs) :
    Made w ((((((w.setCell ⟨ba, 0, none⟩ (.int .i64 (room : Int))).setCell ⟨ba, 1, none⟩ (.int .i64 0)).setCell ⟨ba, 2, none⟩ (.map (some w.heap.size))).setCell ⟨ba, 3, none⟩ (.slice none 0 0)).setCell ⟨ba, 4, none⟩ (.slice none 0 0)).alloc (.map #[] 0)) O ba room [] := by
  have B0 : BlkIs w ba #[.int .i64 (room : Int), .int .i64 (usedA l : Int), .map (some bm), vO, vW] 100 := hR.blk
  have B5 := ((((B0.set 0 (.int .i64 (room : Int))).set 1 (.int .i64 0)).set 2 (.map (some w.heap.size))).set 3 (.slice none 0 0)).set 4 (.slice none 0 0)
  have F5 := fr_set (fr_set (fr_set (fr_set (fr_set (Fr.refl O w) hR.oba 0 (.int .i64 (room : Int))) hR.oba 1 (.int .i64 0)) hR.oba 2 (.map (some w.heap.size))) hR.oba 3 (.slice none 0 0)) hR.oba 4 (.slice none 0 0)
  have hsz : (((((w.setCell ⟨ba, 0, none⟩ (.int .i64 (room : Int))).setCell ⟨ba, 1, none⟩ (.int .i64 0)).setCell ⟨ba, 2, none⟩ (.map (some w.heap.size))).setCell ⟨ba, 3, none⟩ (.slice none 0 0)).setCell ⟨ba, 4, none⟩ (.slice none 0 0)).heap.size = w.heap.size := by simp [World.setCell]
  obtain ⟨w5, hw5⟩ : ∃ W, ((((w.setCell ⟨ba, 0, none⟩ (.int .i64 (room : Int))).setCell ⟨ba, 1, none⟩ (.int .i64 0)).setCell ⟨ba, 2, none⟩ (.map (some w.heap.size))).setCell ⟨ba, 3, none⟩ (.slice none 0 0)).setCell ⟨ba, 4, none⟩ (.slice none 0 0) = W := ⟨_, rfl⟩
  rw [hw5] at B5 F5 hsz ⊢
  have hba := hR.lim _ hR.oba
  refine ⟨fun k => O k ∨ k = w.heap.size, ⟨w.heap.size, .slice none 0 0, .slice none 0 0, [], ?_⟩, fun k h => .inl h, fun k h => h.imp id (fun e => by omega), fr_alloc F5 _⟩
  refine ⟨?_, ?_, row_nil _ _ _ _, row_nil _ _ _ _, rfl, fun i h => absurd h (Nat.not_lt_zero i), .inl hR.oba, .inr rfl, fun k hk => by simp [Value.ownBlock] at hk, fun k hk => by simp [Value.ownBlock] at hk, ?_, WfA.nil, hR.room_le, Nat.zero_le _⟩
  · have B6 := B5.below (below_one w5 (.map #[] 0))
    unfold BlkIs at B6
    rw [B6]
    rfl
  · have := heap_new w5 (.map #[] 0)
    rw [hsz] at this
    exact this
  · intro k hk
    rw [World.size_alloc, hsz]
    rcases hk with hk | hk
    · have := hR.lim k hk; omega
    · omega
set_option maxHeartbeats 2000000 in
theorem clear_any (w : World) (O : Nat → Prop) (ba room : Nat) (l : List ObjA) (h : ArAt w O ba room l) :
    Calls Tryd.prog 26 #[.pointer (some ⟨ba, 0, none⟩)] w fun e w' => (∃ v, e = .returned v) ∧ Made w w' O ba room [] := by
  have hmm := @run_makeMap Tryd.prog
  obtain ⟨bm, vO, vW, vs, hR⟩ := h
  obtain ⟨c0, c1, c2, c3, c4⟩ := hR.cells
  have hba := hR.lim _ hR.oba
  have HR := Lib.hid hR
  have B0 := Lib.hid (show BlkIs w ba #[.int .i64 (room : Int), .int .i64 (usedA l : Int), .map (some bm), vO, vW] 100 from hR.blk)
  have f0 := B0.out.frozen 0
  have f1 := B0.out.frozen 1
  have f2 := B0.out.frozen 2
  have f3 := B0.out.frozen 3
  have f4 := B0.out.frozen 4
  clear hR
  go_enter Tryd.func26, Tryd.ntmps26
  go_wp2_with fail
  go_end0
  exact ⟨⟨_, rfl⟩, clear_final HR.out⟩
end Go.Proofs.YthgnihckeckaiaaDoor.Tm
