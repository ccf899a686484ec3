/- The walk of order.Sort. -/
import Derived.Test.YtfeaolnklooanaaDoorSrtQ
import Derived.Test.YtfeaolnklooanaaDoorBackP
import Derived.Test.YtfeaolnklooanaaDoorOElem
namespace Go.Proofs.YtfeaolnklooanaaDoor.Tm
open Go.RowKit Go.Proofs.YtfeaolnklooanaaDoor.Sx
set_option linter.unusedVariables false
set_option linter.unusedSimpArgs false

theorem sortStable_zero_at (n : Nat) (h : n = 0) (A : Option Addr) (c : Nat) (F : Value) (w : World) :
    Calls Tryd.prog 50 #[.slice A n c, F] w fun e w' => e = .returned (.tuple #[]) ∧ w' = w := by
  subst h
  exact sortStable_zero A c F w
set_option maxRecDepth 100000 in
set_option maxHeartbeats 8000000 in
theorem osort_any (ls : List (List CellD)) (A : Option Addr) (c : Nat) (w : World) (hr : Reads2 w A ls) (hf : Fine2 ls) (hn : ls.length * 24 ≤ 140737488351232) (hT : Tabs w) :
    Calls Tryd.prog 31 #[.slice A ls.length c] w fun e w' => (wrongE ls ≠ 0 ∧ e = .returned (.tuple #[.slice none 0 0, .int .i64 (wrongE ls)]) ∨ wrongE ls = 0 ∧ ∃ A' c' ys, e = .returned (.tuple #[.slice A' ls.length c', .int .i64 0]) ∧ SortAt w.heap.size ls (.slice A' ls.length c') ys w' ∧ ys.length = ls.length) ∧ Below w.heap.size w w' := by
  obtain ⟨i0, hi, hz0, hz1, hz2⟩ := info_parts sl_info
  have HR := Lib.hid hr
  have HF := Lib.hid hf
  have HT := Lib.hid hT
  clear hr hf hT
  go_enter Tryd.func31, Tryd.ntmps31
  go_wp2_with fail
  refine (wrong_any ls A c _ HR.out HF.out (by omega) HT.out).mono ?_
  rintro e w1 ⟨rfl, hB1⟩
  by_cases hw : wrongE ls ≠ 0
  · have te : (wrongE ls != 0) = true := by rw [bne_iff_ne]; exact hw
    have HW := Lib.hid hw
    clear hw
    go_wp2
    go_ret2
    exact ⟨.inl ⟨HW.out, rfl⟩, hB1⟩
  have hw : wrongE ls = 0 := Decidable.not_not.1 hw
  have te : (wrongE ls != 0) = false := by rw [bne_eq_false_iff_eq]; exact hw
  have HW := Lib.hid hw
  have HRT := Lib.hid (wrong_all hw)
  have HSM := Lib.hid (fun l hl => (rightE_ok (HRT.out l hl)).2.2 : ∀ l ∈ ls, l.length ≤ 1024)
  have HB1 := Lib.hid hB1
  clear hw hB1
  go_wp2
  go_loopw [5, 15] (fun v iv wr => ∃ (k : Nat) (ys : List Yld) (A' : Option Addr) (c' : Nat), k ≤ ls.length ∧ iv = .int .i64 k ∧ v = .slice A' k c' ∧ Hid (ys.length = k) ∧ Hid (ys.map Yld.l = ls.take k) ∧ Hid (YRows w.heap.size ys wr) ∧ Hid (YApart ys) ∧ Hid (wr.ownsRow w.heap.size 22 1 (.slice A' k c') k (ys.map Yld.val)) ∧ Below w.heap.size w wr) (fun v iv wr => ls.length - (intOf iv).toNat)
  case atStart => exact ⟨0, [], none, 0, Nat.zero_le _, rfl, rfl, rfl, rfl, YRows.nil _ _, List.Pairwise.nil, row_nil _ _ _ _, HB1.out⟩
  case round =>
    obtain ⟨k, ys, A', c', hk, rfl, rfl, hlen, hmap, hy, hap, hrow, hB⟩ := hrel
    by_cases hlt : k < ls.length
    · have hk1 : (k : Int) < (ls.length : Int) := by omega
      have hk0 : (0 : Int) ≤ (k : Int) := Int.natCast_nonneg _
      obtain ⟨g, o, hA, Aj, cj, hcell, hle, hrd⟩ := HR.out k hlt
      subst hA
      have q0 := cell_below hB hcell
      have HRD := Lib.hid (hrd.below hB)
      have hsm := HSM.out _ (List.getElem_mem hlt)
      have TK := Lib.hid (List.take_succ_eq_append_getElem hlt)
      have w3 : IntKind.i64.wrap ((k : Int) + 1) = (k : Int) + 1 := by rw [IntKind.wrap_i64]; omega
      obtain ⟨part, hpart⟩ : ∃ p, ls[k] = p := ⟨_, rfl⟩
      rw [hpart] at q0 HRD hsm TK
      obtain ⟨np, hnp⟩ : ∃ m, part.length = m := ⟨_, rfl⟩
      rw [hnp] at q0 hsm
      have HNP := Lib.hid hnp
      clear hcell hle hrd hpart hnp
      go_wp2_with fail
      refine (clone_at part np HNP.out Aj cj _ HRD.out (by have := HNP.out; omega)).mono ?_
      rintro e w3' ⟨A3, c3, rfl, hown3⟩
      rw [HNP.out]
      have hb3 := hown3.bel
      have hB3 := below_then hB hb3
      have HX3 := Lib.hid (show RowIs w3' wr.heap.size A3 c3 part from hown3.row)
      have hrow3 := Lib.hid (row_below hrow.out hb3)
      have hy3 := Lib.hid (hy.out.below hb3)
      have hap3 := Lib.hid (show YApart (ys ++ [(⟨0, 0, A3, part, c3⟩ : Yld)]) from hap.out.snoc hy.out HX3.out)
      have hcc : (w3'.alloc (.cells #[.slice A3 np c3] 22)).cell? ⟨w3'.heap.size, 0, none⟩ = some (.slice A3 np c3) := by go_cell
      have HBA := Lib.hid (below_alloc' hB3 (.cells #[.slice A3 np c3] 22))
      have hz3 := hb3.size
      have hzB := hB.size
      clear hown3 hb3 hB3 q0
      go_wp2_with (at_builtin; refine wpList_app _ rfl (.tmp 19) (.tmp 22) _ rfl w.heap.size _ i0 _ 1 24 Tryd.underlying29 hi hz0 hz1 hz2 rfl ?a1 (.slice A' k c') k (ys.map Yld.val) rfl ?a2 (some ⟨w3'.heap.size, 0, none⟩) 1 1 [.slice A3 np c3] rfl ?a3 ?a4 ?a5 ?a6 ?a7)
      case a1 => omega
      case a2 => exact hrow3.out.alloc _
      case a3 => exact Src.slice1 hcc rfl
      case a4 => simp only [maxLen]; omega
      case a5 => omega
      case a6 => exact HBA.out.size
      case a7 =>
        intro v2 w4 hown4 hg4 hat4
        obtain ⟨A4, c4, rfl⟩ := row_slice hown4
        have hB4 : Below w.heap.size w w4 := HBA.out.grown hg4 HBA.out.size (fun q hq => row_base hrow3.out q hq)
        have hrA := Lib.hid (hrow3.out.alloc (.cells #[.slice A3 np c3] 22))
        have hkeep : ∀ A c l, RowIs w3' w.heap.size A c l → RowIs w4 w.heap.size A c l := fun A c l hr =>
          World.ownsRow.kept (World.ownsRow.alloc hr (.cells #[.slice A3 np c3] 22)) hg4 (rows_ne (World.ownsRow.alloc hr (.cells #[.slice A3 np c3] 22)) hrA.out (by decide))
        have HY4 := Lib.hid (show YRows w.heap.size (ys ++ [(⟨0, 0, A3, part, c3⟩ : Yld)]) w4 from fun y hy' => by
          rcases List.mem_append.1 hy' with h1 | h1
          · exact hkeep _ _ _ (hy3.out y h1)
          · obtain rfl : y = _ := by simpa using h1
            exact hkeep _ _ _ (row_mono HX3.out hzB))
        have HO4 := Lib.hid (show w4.ownsRow w.heap.size 22 1 (.slice A4 (k + 1) c4) (k + 1) ((ys ++ [(⟨0, 0, A3, part, c3⟩ : Yld)]).map Yld.val) by rw [List.map_append]; show w4.ownsRow _ _ _ _ _ (_ ++ [Value.slice A3 part.length c3]); rw [HNP.out]; exact hown4)
        have HM4 := Lib.hid (show (ys ++ [(⟨0, 0, A3, part, c3⟩ : Yld)]).map Yld.l = ls.take (k + 1) by rw [TK.out, List.map_append, hmap.out]; rfl)
        have HL4 := Lib.hid (show (ys ++ [(⟨0, 0, A3, part, c3⟩ : Yld)]).length = k + 1 by rw [List.length_append, hlen.out]; rfl)
        clear hown4 hg4 hat4 hcc hkeep
        go_wp2
        go_roundw
        case rel => exact ⟨k + 1, _, A4, c4, by omega, by go_num, rfl, HL4, HM4, HY4, hap3, HO4, hB4⟩
        case measure => simp [intOf]; omega
    · obtain rfl : k = ls.length := by omega
      have hmap2 := hmap.out
      rw [List.take_length] at hmap2
      have HM := Lib.hid hmap2
      have HL2 := Lib.hid (ys_small hmap2 HSM.out)
      clear hmap hmap2 HB1
      have hks : ¬ (ls.length : Int) < (ls.length : Int) := by omega
      have HB := Lib.hid hB
      by_cases h0 : ls.length = 0
      · have HS := Lib.hid (show SortAt w.heap.size ls (.slice A' ls.length c') ys wr by
          have hn0 : ls = [] := List.eq_nil_of_length_eq_zero h0
          have hy0 : ys = [] := List.eq_nil_of_length_eq_zero (by rw [hlen.out, h0])
          refine ⟨by rw [hlen.out]; exact hrow.out, hy.out, hap.out, by rw [HM.out], by rw [HM.out, hn0]; exact List.Pairwise.nil⟩)
        have HL := Lib.hid hlen.out
        have H0 := Lib.hid h0
        clear hy hap hrow hlen h0
        go_wp2_with fail
        refine (sortStable_zero_at _ H0.out A' c' _ _).mono ?_
        rintro e w5 ⟨rfl, rfl⟩
        go_wp2
        go_ret2
        exact ⟨.inr ⟨HW.out, A', c', ys, rfl, HS.out, HL.out⟩, HB.out⟩
      · obtain ⟨g, rfl, hg0, hg1⟩ := row_form hrow.out (by omega)
        have hcap := row_cap hrow.out
        have HRD := Lib.hid (row_rowD hrow.out hlen.out)
        have HAK := Lib.hid (row_allOk hrow.out hlen.out hy.out HL2.out)
        have HTA := Lib.hid (show TellsAll TermR ls.length (elOf ys) from fun i j hi hj => by
          rw [← hlen.out] at hi hj
          rw [elOf_at hi, elOf_at hj]
          have hm : ∀ k (h : k < ys.length), (rightE ys[k].l).1 = 0 := fun k h => HRT.out _ (HM.out ▸ List.mem_map_of_mem (List.getElem_mem h))
          exact termR_tells (x := ⟨ys[i].A, ys[i].l, ys[i].c⟩) (y := ⟨ys[j].A, ys[j].l, ys[j].c⟩) (hm i hi) (hm j hj))
        have HCA := Lib.hid (sortStable_any TermR termR_ord g ls.length c' (elOf ys) wr HRD.out HAK.out hg1 (by omega) hcap HTA.out)
        go_wp2_with fail
        refine HCA.out.mono ?_
        rintro e w5 ⟨d5, rfl, hR5, hS5, hT5, hg5⟩
        have HS := Lib.hid (sort_at (w0 := w) hrow.out hlen.out hy.out hap.out HM.out HRT.out hR5 hS5 hT5 hg5)
        have HB5 := Lib.hid (HB.out.grown hg5.by_ HB.out.size (fun q hq => by injection hq with hq; omega))
        clear hR5 hS5 hT5 hg5 HCA
        go_wp2
        go_ret2
        exact ⟨.inr ⟨HW.out, some ⟨g, 0, none⟩, c', _, rfl, HS.out, by simp⟩, HB5.out⟩
end Go.Proofs.YtfeaolnklooanaaDoor.Tm
