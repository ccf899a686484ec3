/- SameAll of alike lists; the document's Regs. -/
import Derived.Test.YtefpolgflimlgaaDoorOuts
import Derived.Test.YtefpolgflimlgaaDoorHeld
namespace Go.Proofs.YtefpolgflimlgaaDoor.Tm
open Go.RowKit
set_option linter.unusedVariables false
set_option linter.unusedSimpArgs false
attribute [local go_sem ↓] Go.wp_at_zero Go.wp_at_succ

set_option maxRecDepth 100000 in
set_option maxHeartbeats 2000000 in
theorem sameAll_any (n : Nat) (ls : List (List CellD)) (hn : ls.length = n) (A B : Option Addr) (c1 c2 : Nat) (w : World) (hx : Reads2 w A ls) (hy : Reads2 w B ls) (hf : ∀ l ∈ ls, l.length ≤ 1000000000000000) (hl : n ≤ 1000000000000000) :
    Calls Tryd.prog 51 #[.slice A n c1, .slice B n c2] w fun e w' => e = .returned (.bool true) ∧ Below w.heap.size w w' := by
  subst hn
  have hb : ((ls.length : Int) != (ls.length : Int)) = false := by simp
  have HX := Lib.hid hx
  have HY := Lib.hid hy
  have HF := Lib.hid hf
  clear hx hy hf
  go_enter Tryd.func51, Tryd.ntmps51
  go_wp2_with fail
  go_loopw [5] (fun i wr => ∃ j : Nat, j ≤ ls.length ∧ i = .int .i64 j ∧ Below w.heap.size w wr) (fun i wr => ls.length - (intOf i).toNat)
  case atStart => exact ⟨0, Nat.zero_le _, rfl, Below.refl _ _⟩
  case round =>
    obtain ⟨j, hj, rfl, hB⟩ := hrel
    by_cases hlt : j < ls.length
    · obtain ⟨g, o1, hA, A1, k1, p0, p1, p2⟩ := HX.out j hlt
      obtain ⟨b, o2, hBa, A2, k2, q0, q1, q2⟩ := HY.out j hlt
      subst hA hBa
      have p0' := cell_below hB p0
      have q0' := cell_below hB q0
      have R1 := Lib.hid (p2.below hB.drew)
      have R2 := Lib.hid (q2.below hB.drew)
      have hfj := HF.out _ (List.getElem_mem hlt)
      have hi1 : (j : Int) < (ls.length : Int) := by omega
      have hi0 : (0 : Int) ≤ (j : Int) := Int.natCast_nonneg _
      generalize ls[j] = l at *
      clear p0 q0 p2 q2
      go_wp2_with fail
      go_region_held3 (fun w' => w'.cell? ⟨g, o1 + j, none⟩ = some (.slice A1 l.length k1) ∧ w'.cell? ⟨b, o2 + j, none⟩ = some (.slice A2 l.length k2))
        (first
          | exact ⟨cell_below hbc p0', cell_below hbc q0'⟩
          | go_keep)
        ((go_at_call 26; refine (rsame_any A1 A2 k1 k2 l l _ R1.out R2.out hfj hfj).mono ?_; rintro e wc ⟨rfl, hbc⟩; rw [show decide (l = l) = true by simp]))
      have hB2 := below_then hB.drew hbc
      go_wp2
      go_roundw
      case rel => exact ⟨j + 1, by omega, by go_num, hB2⟩
      case measure => simp [intOf]; omega
    · go_wp2
      go_ret
      exact ⟨rfl, hB⟩
theorem make16r (w : World) : (Instr.makeSlice 29 (.int .i64 16) (.int .i64 16)).run Tryd.prog w = .ok (.slice (some ⟨w.heap.size, 0, none⟩) 16 16) (w.alloc (.cells nils16 22)) := by kernel_rfl
set_option maxRecDepth 100000 in
set_option maxHeartbeats 4000000 in
theorem rregs_any (x : List (List CellD)) (A : Option Addr) (c : Nat) (w : World) (hx : Reads2 w A x) (hfx : Fine2 x) (hl : x.length ≤ 1000000000000000) :
    Calls Tryd.prog 63 #[.slice A x.length c] w fun e w' => ∃ og vs, e = .returned (.slice (some ⟨og, 0, none⟩) 16 16) ∧ Outs w' w.heap.size og vs (regs16 x) ∧ Below w.heap.size w w' := by
  obtain ⟨i0, hi, hz0, hz1, hz2⟩ := info_parts cell_info
  have hmk := make16r
  have HX := Lib.hid hx
  have HF := Lib.hid hfx
  have O0 := Lib.hid (Outs.new w)
  have B0 := Lib.hid (below_one w (.cells nils16 22))
  clear hx hfx
  go_enter Tryd.func63, Tryd.ntmps63
  go_wp2_with fail
  clear hmk
  go_loopw [9] (fun i wr => ∃ (k : Nat), k ≤ 16 ∧ i = .int .i64 k ∧ Hid (∃ vs, Outs wr w.heap.size w.heap.size vs (regsTo x k)) ∧ Below w.heap.size w wr) (fun i wr => 16 - (intOf i).toNat)
  case atStart => exact ⟨0, Nat.zero_le _, rfl, ⟨_, O0.out⟩, B0.out⟩
  case round =>
    obtain ⟨k, hk, rfl, hO, hB⟩ := hrel
    by_cases hlt : k < 16
    · have hi1 : (k : Int) < 16 := by omega
      have hi0 : (0 : Int) ≤ (k : Int) := Int.natCast_nonneg _
      have ST := Lib.hid (regsTo_set x hlt)
      have hfk := (reg_fine HF.out (k : Int)).len
      go_wp2_with fail
      refine (reg_any x k A c _ (HX.out.below hB) hl).mono ?_
      rintro e w1 ⟨A1, c1, rfl, hc1, hR1, hb1⟩
      have HS := Lib.hid (Src.of_reads hR1)
      have HB1 := Lib.hid (below_then hB hb1)
      have hO1 := Lib.hid (hO.out.imp fun _ o => o.below hb1)
      generalize regD x (k : Int) = l at *
      clear hR1 hb1 hB hO
      go_wp2_with (at_builtin; refine wpList_app _ rfl (.tmp 12) (.tmp 15) _ rfl w1.heap.size _ i0 _ 3 32 Tryd.underlying22 hi hz0 hz1 hz2 rfl ?a0 (.slice none 0 0) 0 [] rfl (row_nil _ _ _ _) A1 l.length c1 (encs l) rfl HS.out ?a4 ?a5 (Nat.le_refl _) ?a7)
      case a0 => omega
      case a4 => simp only [maxLen]; omega
      case a5 => omega
      case a7 =>
        intro v2 w2 hown2 hg2 hat2
        have hb2 : Below w1.heap.size w1 w2 := (Below.refl _ _).grown hg2 (Nat.le_refl _) (by simp [Value.ownBlock])
        obtain ⟨A2, c2, e2⟩ := row_slice hown2
        obtain ⟨vs, o1⟩ := hO1.out
        have hrl : (regsTo x k).length = 16 := regsTo_len x k
        have o2 := o1.below hb2
        obtain ⟨A0, c0, t2, _⟩ := o2.cell (n := k) (by omega)
        have t3 := o2.free k
        have hown3 : w2.ownsRow w1.heap.size 32 3 v2 l.length (encs l) := by simpa using hown2
        obtain ⟨A2, c2, rfl⟩ := row_slice hown3
        have N := o1.set_ hb2 (n := k) (by omega) hown3 HB1.out.size
        rw [ST.out] at N
        have HN := Lib.hid N
        have HB2 := Lib.hid ((below_then HB1.out hb2).setCell (p := ⟨w.heap.size, k, none⟩) (Nat.le_refl _) (.slice A2 l.length c2))
        clear N hown2 hown3 hg2 hat2 hb2 o1 o2 e2
        go_wp2
        go_roundw
        case rel => exact ⟨k + 1, by omega, by go_num, ⟨_, HN.out⟩, HB2.out⟩
        case measure => simp [intOf]; omega
    · obtain rfl : k = 16 := by omega
      obtain ⟨vs, o⟩ := hO.out
      have e16 : regsTo x 16 = regs16 x := by
        unfold regsTo regs16
        exact List.map_congr_left fun n hn => by rw [if_pos (by simpa using hn)]
      rw [e16] at o
      have HO := Lib.hid o
      clear hO o e16
      go_wp2
      go_ret
      exact ⟨_, vs, rfl, HO.out, hB⟩
end Go.Proofs.YtefpolgflimlgaaDoor.Tm
