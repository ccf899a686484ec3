/- OfTerm and ToTerm, of both texts. -/
import Derived.Test.YtefpolgflimlgaaDoorPatK
namespace Go.Proofs.YtefpolgflimlgaaDoor.Tm
open Go.RowKit
set_option linter.unusedVariables false
set_option linter.unusedSimpArgs false

/-- A call answers cells in memory, and a number. -/
def TermPost (w : World) (r : List CellD × Int) (e : Ending) (w' : World) : Prop := ∃ A c, e = .returned (.tuple #[.slice A r.1.length c, .int .i64 r.2]) ∧ r.1.length ≤ c ∧ Reads w' A r.1 ∧ Below w.heap.size w w'
theorem TermPost.no {w w' : World} {k : Int} {r : List CellD × Int} (h : r = ([], k)) (hB : Below w.heap.size w w') : TermPost w r (.returned (.tuple #[.slice none 0 0, .int .i64 k])) w' := by
  subst h
  exact ⟨none, 0, rfl, Nat.le_refl _, Reads.nil _ _, hB⟩
theorem of_t {t : List CellD} (h : (rightE t).1 ≠ 0) : ofTermE t = ([], (rightE t).1) := by rw [ofTermE, if_pos h]
theorem of_l {t : List CellD} (h : (rightE t).1 = 0) (k : 256 < t.length) : ofTermE t = ([], 7) := by rw [ofTermE, if_neg (by simp [h]), if_pos k]
theorem of_y {t : List CellD} (h : (rightE t).1 = 0) (k : ¬ 256 < t.length) : ofTermE t = (t, 0) := by rw [ofTermE, if_neg (by simp [h]), if_neg k]
theorem encs_one_ (c : CellD) : encs [c] = [.int .i64 c.kind, .int .i64 c.n, .string c.text] := rfl
set_option maxRecDepth 100000 in
set_option maxHeartbeats 4000000 in
theorem pofterm_any (t : List CellD) (A : Option Addr) (c : Nat) (w : World) (hr : Reads w A t) (hf : Fine t) (hT : Tabs w) : Calls Tryd.prog 77 #[.slice A t.length c] w (TermPost w (ofTermE t)) := by
  obtain ⟨i0, hi, hz0, hz1, hz2⟩ := info_parts pat_info
  have hl := hf.lim
  have HR := Lib.hid hr
  have HF := Lib.hid hf
  have HT := Lib.hid hT
  clear hT
  clear hr hf
  go_enter Tryd.func77, Tryd.ntmps77
  go_wp2_with fail
  refine (wright_any t A c _ HR.out HF.out.text HF.out.lim HT.out).mono ?_
  rintro e w1 ⟨rfl, hB1⟩
  by_cases et : (rightE t).1 ≠ 0
  · have F := Lib.hid (of_t et)
    have tt : ((rightE t).1 != 0) = true := by rw [bne_iff_ne]; exact et
    clear et
    go_wp2
    go_ret2
    exact TermPost.no F.out hB1
  have et : (rightE t).1 = 0 := Decidable.not_not.1 et
  have tt : ((rightE t).1 != 0) = false := by rw [bne_eq_false_iff_eq]; exact et
  by_cases h256 : 256 < t.length
  · have F := Lib.hid (of_l et h256)
    clear et
    go_wp2
    go_ret2
    exact TermPost.no F.out hB1
  have hb : decide (256 < (t.length : Int)) = false := decide_eq_false (by omega)
  have F := Lib.hid (of_y et h256)
  have hl2 : t.length ≤ 256 := by omega
  clear et h256
  go_wp2_with fail
  go_loopw [6, 22] (fun v i wr => ∃ (k : Nat) (A' : Option Addr) (c' : Nat), k ≤ t.length ∧ i = .int .i64 k ∧ v = .slice A' k c' ∧ Hid (wr.ownsRow w.heap.size 95 3 (.slice A' k c') k (encs (t.take k))) ∧ Below w.heap.size w wr) (fun v i wr => t.length - (intOf i).toNat)
  case atStart => exact ⟨0, none, 0, Nat.zero_le _, rfl, rfl, row_nil _ _ _ _, hB1⟩
  case round =>
    obtain ⟨k, A', c', hk, rfl, rfl, hrow, hB⟩ := hrel
    by_cases hlt : k < t.length
    · obtain ⟨b, o, hA, htc⟩ := HR.out k hlt
      subst hA
      obtain ⟨q0, q1, q2⟩ := htc.below hB
      have hi1 : (k : Int) < (t.length : Int) := by omega
      have hi0 : (0 : Int) ≤ (k : Int) := Int.natCast_nonneg _
      have TK := Lib.hid (List.take_succ_eq_append_getElem hlt)
      generalize t[k] = y at *
      clear htc
      have HBa := Lib.hid (below_alloc' hB (.cells #[.int .i64 y.kind, .int .i64 y.n, .string y.text] 32))
      have hrow2 := Lib.hid (hrow.out.alloc (.cells #[.int .i64 y.kind, .int .i64 y.n, .string y.text] 32))
      have HN := Lib.hid (new_cell (wr.alloc (.cells #[.int .i64 y.kind, .int .i64 y.n, .string y.text] 32)) y 95)
      go_wp2_with (at_builtin; refine wpList_app _ rfl (.tmp 26) (.tmp 34) _ rfl w.heap.size _ i0 _ 3 32 Tryd.underlying67 hi hz0 hz1 hz2 rfl ?a0 (.slice A' k c') k (encs (t.take k)) rfl ?a2 (some ⟨wr.heap.size + 1, 0, none⟩) 1 1 (encs [y]) rfl ?a3 ?a4 ?a5 ?a6 ?a7)
      case a0 => omega
      case a2 => exact hrow2.out.alloc _
      case a3 => exact Src.of_one (by have h := HN.out; rw [World.size_alloc] at h; exact h)
      case a4 => simp only [maxLen]; omega
      case a5 => omega
      case a6 => rw [World.size_alloc]; have := HBa.out.size; omega
      case a7 =>
        intro v2 w2 hown2 hg2 hat2
        rw [← encs_append, ← TK.out] at hown2
        have hB2 : Below w.heap.size w w2 := (below_alloc' HBa.out _).grown hg2 (below_alloc' HBa.out _).size (fun q hq => row_base hrow2.out q hq)
        obtain ⟨A2, c2, rfl⟩ := row_slice hown2
        have HO := Lib.hid hown2
        clear hown2 hg2 hat2 q0 q1 q2
        go_wp2
        go_roundw
        case rel => exact ⟨k + 1, A2, c2, by omega, by go_num, rfl, HO, hB2⟩
        case measure => simp [intOf]; omega
    · obtain rfl : k = t.length := by omega
      have hO := hrow.out
      rw [List.take_length] at hO
      have HO := Lib.hid hO
      clear hrow hO
      go_wp2
      go_ret2
      rw [F.out]
      exact ⟨A', c', rfl, row_cap HO.out, Reads.of_row HO.out, hB⟩
set_option maxRecDepth 100000 in
set_option maxHeartbeats 4000000 in
theorem rofterm_any (t : List CellD) (A : Option Addr) (c : Nat) (w : World) (hr : Reads w A t) (hf : Fine t) : Calls Tryd.prog 85 #[.slice A t.length c] w (TermPost w (ofTermE t)) := by
  obtain ⟨i0, hi, hz0, hz1, hz2⟩ := info_parts pat_info
  have hl := hf.lim
  have HR := Lib.hid hr
  have HF := Lib.hid hf
  clear hr hf
  go_enter Tryd.func85, Tryd.ntmps85
  go_wp2_with fail
  refine (rright_any t A c _ HR.out HF.out.text HF.out.lim).mono ?_
  rintro e w1 ⟨rfl, hB1⟩
  by_cases et : (rightE t).1 ≠ 0
  · have F := Lib.hid (of_t et)
    have tt : ((rightE t).1 != 0) = true := by rw [bne_iff_ne]; exact et
    clear et
    go_wp2
    go_ret2
    exact TermPost.no F.out hB1
  have et : (rightE t).1 = 0 := Decidable.not_not.1 et
  have tt : ((rightE t).1 != 0) = false := by rw [bne_eq_false_iff_eq]; exact et
  by_cases h256 : 256 < t.length
  · have F := Lib.hid (of_l et h256)
    clear et
    go_wp2
    go_ret2
    exact TermPost.no F.out hB1
  have hb : decide (256 < (t.length : Int)) = false := decide_eq_false (by omega)
  have F := Lib.hid (of_y et h256)
  have hl2 : t.length ≤ 256 := by omega
  clear et h256
  go_wp2_with fail
  go_loopw [6, 22] (fun v i wr => ∃ (k : Nat) (A' : Option Addr) (c' : Nat), k ≤ t.length ∧ i = .int .i64 k ∧ v = .slice A' k c' ∧ Hid (wr.ownsRow w.heap.size 95 3 (.slice A' k c') k (encs (t.take k))) ∧ Below w.heap.size w wr) (fun v i wr => t.length - (intOf i).toNat)
  case atStart => exact ⟨0, none, 0, Nat.zero_le _, rfl, rfl, row_nil _ _ _ _, hB1⟩
  case round =>
    obtain ⟨k, A', c', hk, rfl, rfl, hrow, hB⟩ := hrel
    by_cases hlt : k < t.length
    · obtain ⟨b, o, hA, htc⟩ := HR.out k hlt
      subst hA
      obtain ⟨q0, q1, q2⟩ := htc.below hB
      have hi1 : (k : Int) < (t.length : Int) := by omega
      have hi0 : (0 : Int) ≤ (k : Int) := Int.natCast_nonneg _
      have TK := Lib.hid (List.take_succ_eq_append_getElem hlt)
      generalize t[k] = y at *
      clear htc
      have HBa := Lib.hid (below_alloc' hB (.cells #[.int .i64 y.kind, .int .i64 y.n, .string y.text] 32))
      have hrow2 := Lib.hid (hrow.out.alloc (.cells #[.int .i64 y.kind, .int .i64 y.n, .string y.text] 32))
      have HN := Lib.hid (new_cell (wr.alloc (.cells #[.int .i64 y.kind, .int .i64 y.n, .string y.text] 32)) y 95)
      go_wp2_with (at_builtin; refine wpList_app _ rfl (.tmp 26) (.tmp 34) _ rfl w.heap.size _ i0 _ 3 32 Tryd.underlying67 hi hz0 hz1 hz2 rfl ?a0 (.slice A' k c') k (encs (t.take k)) rfl ?a2 (some ⟨wr.heap.size + 1, 0, none⟩) 1 1 (encs [y]) rfl ?a3 ?a4 ?a5 ?a6 ?a7)
      case a0 => omega
      case a2 => exact hrow2.out.alloc _
      case a3 => exact Src.of_one (by have h := HN.out; rw [World.size_alloc] at h; exact h)
      case a4 => simp only [maxLen]; omega
      case a5 => omega
      case a6 => rw [World.size_alloc]; have := HBa.out.size; omega
      case a7 =>
        intro v2 w2 hown2 hg2 hat2
        rw [← encs_append, ← TK.out] at hown2
        have hB2 : Below w.heap.size w w2 := (below_alloc' HBa.out _).grown hg2 (below_alloc' HBa.out _).size (fun q hq => row_base hrow2.out q hq)
        obtain ⟨A2, c2, rfl⟩ := row_slice hown2
        have HO := Lib.hid hown2
        clear hown2 hg2 hat2 q0 q1 q2
        go_wp2
        go_roundw
        case rel => exact ⟨k + 1, A2, c2, by omega, by go_num, rfl, HO, hB2⟩
        case measure => simp [intOf]; omega
    · obtain rfl : k = t.length := by omega
      have hO := hrow.out
      rw [List.take_length] at hO
      have HO := Lib.hid hO
      clear hrow hO
      go_wp2
      go_ret2
      rw [F.out]
      exact ⟨A', c', rfl, row_cap HO.out, Reads.of_row HO.out, hB⟩
end Go.Proofs.YtefpolgflimlgaaDoor.Tm
