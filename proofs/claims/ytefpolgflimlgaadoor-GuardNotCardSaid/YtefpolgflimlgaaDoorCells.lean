/- The order of two cells: the program's 'cells' tells cellCmp. -/
import Derived.Test.YtefpolgflimlgaaDoorCmp
import Derived.Test.YtefpolgflimlgaaDoorReads
import Derived.Test.YtefpolgflimlgaaDoorShelf
import Derived.Handy
namespace Go.Proofs.YtefpolgflimlgaaDoor.Tm
open Go.RowKit
set_option linter.unusedVariables false
set_option linter.unusedSimpArgs false

theorem compareInt_eq (a b : Int) : Lib.compareInt a b = intCmp a b := by unfold Lib.compareInt intCmp; rfl
theorem compareBytes_eq : ∀ a b, Lib.compareBytes a b = bytesCmp a b
  | [], [] => rfl
  | [], _ :: _ => rfl
  | _ :: _, [] => rfl
  | x :: xs, y :: ys => by
    unfold Lib.compareBytes bytesCmp
    rw [compareBytes_eq xs ys]
set_option maxHeartbeats 1000000 in
theorem cells_any (a b : CellD) (w : World) :
    Calls Tryd.prog 152 #[.agg #[.int .i64 a.kind, .int .i64 a.n, .string a.text], .agg #[.int .i64 b.kind, .int .i64 b.n, .string b.text]] w fun e w' => e = .returned (.int .i64 (cellCmp a b)) ∧ Below w.heap.size w w' := by
  have hB := fun o p => below_alloc' (below_one w o) p
  by_cases hk : a.kind = b.kind
  · by_cases hn : a.n = b.n
    · have H := Lib.hid (cell_text hk hn)
      obtain ⟨k1, n1, t1⟩ := a
      obtain ⟨k2, n2, t2⟩ := b
      simp only at hk hn
      subst hk hn
      have hi : (intCmp n1 n1 != 0) = false := by rw [bne_eq_false_iff_eq]; exact int_eq.2 rfl
      go_enter Tryd.func152, Tryd.ntmps152
      go_wp2_with fail
      refine (Tryd.cmp_Compare_int_f181 _ _ _).mono ?_
      rintro e w' ⟨rfl, rfl⟩
      rw [compareInt_eq]
      go_wp2_with fail
      refine (Tryd.strings_Compare _ _ _).mono ?_
      rintro e w' ⟨rfl, rfl⟩
      go_wp2
      go_ret
      exact ⟨by rw [H.out, compareBytes_eq]; rfl, hB _ _⟩
    · have H := Lib.hid (cell_n hk hn)
      obtain ⟨k1, n1, t1⟩ := a
      obtain ⟨k2, n2, t2⟩ := b
      simp only at hk hn H
      subst hk
      have hi : (intCmp n1 n2 != 0) = true := by rw [bne_iff_ne]; exact fun e => hn (int_eq.1 e)
      go_enter Tryd.func152, Tryd.ntmps152
      go_wp2_with fail
      refine (Tryd.cmp_Compare_int_f181 _ _ _).mono ?_
      rintro e w' ⟨rfl, rfl⟩
      rw [compareInt_eq]
      go_wp2
      go_ret
      exact ⟨by rw [H.out]; rfl, hB _ _⟩
  · have H := Lib.hid (cell_kind hk)
    have hi : (a.kind != b.kind) = true := by rw [bne_iff_ne]; exact hk
    go_enter Tryd.func152, Tryd.ntmps152
    go_wp2_with fail
    refine (Tryd.cmp_Compare_int _ _ _).mono ?_
    rintro e w' ⟨rfl, rfl⟩
    rw [compareInt_eq]
    go_wp2
    go_ret
    exact ⟨by rw [H.out]; rfl, hB _ _⟩
end Go.Proofs.YtefpolgflimlgaaDoor.Tm
