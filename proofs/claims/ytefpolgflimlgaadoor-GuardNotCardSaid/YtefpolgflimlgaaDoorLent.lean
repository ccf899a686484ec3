/- Lent and Kept: a copy of cells with a mark behind it. -/
import Derived.Test.YtefpolgflimlgaaDoorApp
import Derived.Test.YtefpolgflimlgaaDoorSameR
import Derived.Handy
namespace Go.Proofs.YtefpolgflimlgaaDoor.Tm
open Go.RowKit
set_option linter.unusedVariables false
set_option linter.unusedSimpArgs false

theorem cell_info : (Tryd.prog.info? 32).map (fun i => (i.zero, i.size, i.bytes)) = some (some (.agg #[.int .i64 0, .int .i64 0, .string ⟨#[]⟩]), 3, 32) := by kernel_rfl
def markT : ByteArray := ⟨#[98, 101, 104, 105, 110, 100, 32, 119, 104, 97, 116, 32, 119, 97, 115, 32, 104, 97, 110, 100, 101, 100, 32, 105, 110]⟩
def markC : CellD := ⟨0, 0, markT⟩
/-- A lent copy. -/
structure LentAt (w : World) (base : Nat) (A : Option Addr) (cap : Nat) (l : List CellD) : Prop where
  row : w.ownsRow base 32 3 (.slice A (l.length + 1) cap) (l.length + 1) (encs (l ++ [markC]))
theorem new_cell (w : World) (c : CellD) (t : TypeId) : CellAt (w.alloc (.cells #[.int .i64 c.kind, .int .i64 c.n, .string c.text] t)) w.heap.size 0 c := ⟨by go_cell, by go_cell, by go_cell⟩
set_option maxHeartbeats 1000000 in
theorem lent_any (l : List CellD) (A : Option Addr) (cap : Nat) (w : World) (hr : Reads w A l) (hl : (l.length + 1) * 32 ≤ 140737488355328) :
    Calls Tryd.prog 46 #[.slice A l.length cap] w fun e w' => ∃ A' cap', e = .returned (.slice A' l.length cap') ∧ LentAt w' w.heap.size A' cap' l ∧ Below w.heap.size w w' := by
  obtain ⟨i0, hi, hz0, hz1, hz2⟩ := info_parts cell_info
  have hS := Lib.hid (Src.of_reads hr)
  clear hr
  go_enter Tryd.func46, Tryd.ntmps46
  go_wp2_with (first
    | (at_builtin
       refine wpList_app _ rfl (.tmp 4) (.tmp 5) _ rfl w.heap.size _ i0 _ 3 32 Tryd.underlying22 hi hz0 hz1 hz2 rfl (by omega) (.slice none 0 0) 0 [] rfl (row_nil _ _ _ _) A l.length cap (encs l) rfl hS.out (by simp only [maxLen]; omega) (by omega) (Nat.le_refl _) ?_
       intro v1 w1 hown1 hg1 hat1
       rw [Nat.zero_add, List.nil_append] at hown1
       have hB1 : Below w.heap.size w w1 := (Below.refl _ _).grown hg1 (Nat.le_refl _) (by simp [Value.ownBlock])
       have hsz1 := hB1.size
       obtain ⟨A1, c1, rfl⟩ := row_slice hown1)
    | (at_builtin
       refine wpList_app _ rfl (.tmp 7) (.tmp 9) _ rfl w.heap.size _ i0 _ 3 32 Tryd.underlying22 hi hz0 hz1 hz2 rfl (by omega) (.slice A1 l.length c1) l.length (encs l) rfl (hown1.alloc _) (some ⟨w1.heap.size, 0, none⟩) 1 1 (encs [markC]) rfl (Src.of_one (new_cell w1 markC _)) (by simp only [maxLen]; omega) (by omega) (by rw [World.size_alloc]; omega) ?_
       intro v2 w2 hown2 hg2 hat2
       rw [← encs_append] at hown2
       have hB2 : Below w.heap.size w w2 := (below_alloc' hB1 _).grown hg2 (below_alloc' hB1 _).size (fun k hk => row_base hown1 k hk)
       obtain ⟨A2, c2, rfl⟩ := row_slice hown2
       have hcap := row_cap hown2))
  go_ret
  exact ⟨A2, c2, rfl, ⟨hown2⟩, hB2⟩
theorem LentAt.reads2 {w : World} {base cap : Nat} {A : Option Addr} {l : List CellD} (h : LentAt w base A cap l) : Reads w A (l ++ [markC]) :=
  Reads.of_row (base := base) (cap := cap) (e := 32) (by simpa using h.row)
theorem LentAt.reads {w : World} {base cap : Nat} {A : Option Addr} {l : List CellD} (h : LentAt w base A cap l) : Reads w A l := by
  have := h.reads2.take l.length
  simpa using this
theorem LentAt.below {w W : World} {base cap : Nat} {A : Option Addr} {l : List CellD} (h : LentAt w base A cap l) (hB : Below w.heap.size w W) : LentAt W base A cap l := ⟨row_below h.row hB⟩
set_option maxHeartbeats 1000000 in
theorem kept_any (l : List CellD) (A B : Option Addr) (base cap cap2 : Nat) (w : World) (h : LentAt w base A cap l) (hr : Reads w B l) (hl : (l.length + 1) * 32 ≤ 140737488355328) :
    Calls Tryd.prog 56 #[.slice A l.length cap, .slice B l.length cap2] w fun e w' => e = .returned (.bool true) ∧ Below w.heap.size w w' := by
  have hcap := row_cap h.row
  have H := Lib.hid h
  have HR := Lib.hid hr
  clear h hr
  go_enter Tryd.func56, Tryd.ntmps56
  go_wp2_with fail
  refine (rsame_any A B cap cap2 l l _ H.out.reads HR.out (by omega) (by omega)).mono ?_
  rintro e w' ⟨rfl, hb⟩
  rw [show decide (l = l) = true by simp]
  obtain ⟨b, o, rfl, hc0, hc1, hc2⟩ := (H.out.below hb).reads2 l.length (by simp)
  rw [show (l ++ [markC])[l.length] = markC by simp] at hc2
  have hm : w'.cell? ⟨b, o + l.length * 3 + 2, none⟩ = some (.string ⟨#[98, 101, 104, 105, 110, 100, 32, 119, 104, 97, 116, 32, 119, 97, 115, 32, 104, 97, 110, 100, 101, 100, 32, 105, 110]⟩) := hc2
  clear hc0 hc1 hc2
  go_wp2
  go_ret
  exact ⟨rfl, hb⟩
end Go.Proofs.YtefpolgflimlgaaDoor.Tm
