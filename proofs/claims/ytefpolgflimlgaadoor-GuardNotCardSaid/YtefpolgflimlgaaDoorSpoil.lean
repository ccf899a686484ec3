/- Spoil: writes over a term of the call's own, and behind it. -/
import Derived.Test.YtefpolgflimlgaaDoorClone
import Derived.Handy
namespace Go.Proofs.YtefpolgflimlgaaDoor.Tm
open Go.RowKit
set_option linter.unusedVariables false
set_option linter.unusedSimpArgs false

theorem row_form {w : World} {base n c : Nat} {e : TypeId} {size : Nat} {A : Option Addr} {xs : List Value} (h : w.ownsRow base e size (.slice A n c) n xs) (hn : 0 < n) : ∃ g, A = some ⟨g, 0, none⟩ ∧ base ≤ g ∧ g < w.heap.size := by
  rcases h.2 with ⟨_, h0⟩ | ⟨g, cap, cur, hv, hb, hh, _⟩
  · omega
  · obtain ⟨rfl, rfl⟩ : A = some ⟨g, 0, none⟩ ∧ c = cap := by simpa using hv
    exact ⟨g, rfl, hb, lt_of_block hh⟩
theorem row_some {w : World} {base n c g : Nat} {e : TypeId} {size : Nat} {xs : List Value} (h : w.ownsRow base e size (.slice (some ⟨g, 0, none⟩) n c) n xs) {j : Nat} (hj : j < n * size) : ∃ u, w.cell? ⟨g, j, none⟩ = some u := by
  have hl : j < xs.length := by rw [h.1]; exact hj
  exact ⟨xs[j], by rw [h.cellAt j hj, List.getElem?_eq_getElem hl]⟩
theorem below_set {B : Nat} {w W : World} (h : Below B w W) {g j : Nat} (hg : B ≤ g) (u : Value) : Below B w (W.setCell ⟨g, j, none⟩ u) := h.setCell hg u
def behC : CellD := ⟨0, 0, ⟨#[98, 101, 104, 105, 110, 100]⟩⟩
theorem grown_set {w W : World} {row : Option Nat} (h : w.grownBy W row) {g j : Nat} (hg : row = some g ∨ w.heap.size ≤ g) (u : Value) : w.grownBy (W.setCell ⟨g, j, none⟩ u) row :=
  ⟨h.os, h.tape, h.output, by simpa [World.setCell] using h.size, fun k hk hr => (Below.heap_setCell W ⟨g, j, none⟩ u k (by
    rintro rfl
    rcases hg with e | e
    · exact hr (by rw [e])
    · exact absurd hk (Nat.not_lt.2 e))).trans (h.block k hk hr)⟩
theorem grown_alloc {w W : World} {row : Option Nat} (h : w.grownBy W row) (o : Obj) : w.grownBy (W.alloc o) row :=
  ⟨h.os, h.tape, h.output, Nat.le_trans h.size (by simp), fun k hk hr => (Below.heap_alloc W o k (Nat.lt_of_lt_of_le hk h.size)).trans (h.block k hk hr)⟩
/-- Only the row of the call's own has turned, and what is new. -/
theorem spoil_grown {w W V : World} {row : Option Nat} (h : w.grownBy W row) (k : W.grownBy V row) : w.grownBy V row := grown_trans h k
set_option maxHeartbeats 2000000 in
theorem spoil_any (A : Option Addr) (n c base : Nat) (xs : List Value) (w : World) (h : w.ownsRow base 32 3 (.slice A n c) n xs) (hbs : base ≤ w.heap.size) (hn : n ≤ 1000000000000) :
    Calls Tryd.prog 35 #[.slice A n c] w fun e w' => e = .returned (.tuple #[]) ∧ w.grownBy w' (Value.slice A n c).ownBlock := by
  have H := Lib.hid h
  clear h
  go_enter Tryd.func35, Tryd.ntmps35
  go_wp2_with fail
  go_loopw [2] (fun i wr => ∃ k : Nat, ∃ ys : List Value, k ≤ n ∧ i = .int .i64 k ∧ Hid (wr.ownsRow base 32 3 (.slice A n c) n ys) ∧ Hid (w.grownBy wr (Value.slice A n c).ownBlock) ∧ w.heap.size ≤ wr.heap.size) (fun i wr => n - (intOf i).toNat)
  case atStart => exact ⟨0, xs, Nat.zero_le _, rfl, H, World.grownBy.refl w _, Nat.le_refl _⟩
  case round =>
    obtain ⟨k, ys, hk, rfl, hrow, hG, hsz⟩ := hrel
    by_cases hlt : k < n
    · obtain ⟨g, rfl, hg, hgl⟩ := row_form hrow.out (by omega)
      obtain ⟨u0, c0⟩ := row_some hrow.out (j := k * 3) (by omega)
      obtain ⟨u1, c1⟩ := row_some hrow.out (j := k * 3 + 1) (by omega)
      obtain ⟨u2, c2⟩ := row_some hrow.out (j := k * 3 + 2) (by omega)
      have f0 := hrow.out.frozenAt (k * 3)
      have f1 := hrow.out.frozenAt (k * 3 + 1)
      have f2 := hrow.out.frozenAt (k * 3 + 2)
      have hi1 : (k : Int) < (n : Int) := by omega
      have hi0 : (0 : Int) ≤ (k : Int) := Int.natCast_nonneg _
      go_wp2
      have s0 := hrow.out.stored (k * 3) (Value.int .i64 99)
      have s1 := s0.1.stored (k * 3 + 1) (Value.int .i64 99)
      have s2 := s1.1.stored (k * 3 + 2) (Value.string ⟨#[115, 112, 111, 105, 108, 116]⟩)
      refine ⟨⟨k + 1, _, by omega, by go_num, s2.1, grown_set (grown_set (grown_set hG.out (.inl rfl) _) (.inl rfl) _) (.inl rfl) _, by simpa using hsz⟩, ?_⟩
      simp [intOf]; omega
    · obtain rfl : k = n := by omega
      obtain ⟨i0, hi, hz0, hz1, hz2⟩ := info_parts cell_info
      go_wp2_with (at_builtin; refine wpList_app _ rfl (.tmp 13) (.tmp 15) _ rfl base _ i0 _ 3 32 Tryd.underlying22 hi hz0 hz1 hz2 rfl (Nat.zero_lt_succ 2) (.slice A k c) k ys rfl ?a2 (some ⟨wr.heap.size, 0, none⟩) 1 1 (encs [behC]) rfl ?a3 ?a4 ?a5 ?a6 ?a7)
      case a2 => exact hrow.out.alloc _
      case a3 => exact Src.of_one (new_cell wr behC _)
      case a4 => simp only [maxLen]; omega
      case a5 => omega
      case a6 => rw [World.size_alloc]; omega
      case a7 =>
        intro v1 w2 hown2 hg2 hat2
        obtain ⟨A2, c2, rfl⟩ := row_slice hown2
        obtain ⟨g2, rfl, hgb, hgl⟩ := row_form hown2 (by omega)
        obtain ⟨u1, d1⟩ := row_some hown2 (j := k * 3 + 1) (by omega)
        have f1 := hown2.frozenAt (k * 3 + 1)
        have hG2 := Lib.hid (grown_trans (grown_alloc hG.out _) hg2)
        have hi0 : (0 : Int) ≤ (k : Int) := Int.natCast_nonneg _
        have hwhere : (Value.slice A k c).ownBlock = some g2 ∨ w.heap.size ≤ g2 := by
          rcases hat2 with e | e
          · exact .inl e.symm
          · have : g2 = wr.heap.size + 1 := by simpa [Value.ownBlock] using e
            exact .inr (by omega)
        have HW := Lib.hid hwhere
        clear hat2 hg2 hwhere
        go_wp2
        go_end0
        exact ⟨rfl, grown_set hG2.out HW.out _⟩
end Go.Proofs.YtefpolgflimlgaaDoor.Tm
