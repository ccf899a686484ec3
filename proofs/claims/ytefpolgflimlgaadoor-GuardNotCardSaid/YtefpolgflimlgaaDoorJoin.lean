/- joined: a first cell, and terms behind it. -/
import Derived.Test.YtefpolgflimlgaaDoorJoinP
import Derived.Test.YtefpolgflimlgaaDoorClone
import Derived.WalkMore
import Derived.Scope
namespace Go.Proofs.YtefpolgflimlgaaDoor.Tm
open Go.RowKit
set_option linter.unusedVariables false
set_option linter.unusedSimpArgs false

set_option maxHeartbeats 4000000 in
theorem joined_any (first each last : List CellD) (ls : List (List CellD)) (A B C D : Option Addr) (ca cb cc cd : Nat) (w : World) (hA : Reads w A first) (hB : Reads w B each) (hC : Reads w C last) (hD : Reads2 w D ls)
    (h1 : first.length ≤ 9) (h2 : each.length ≤ 9) (h3 : last.length ≤ 9) (hf : Fine2 ls) (hn : ls.length ≤ 1000000000000000) :
    Calls Tryd.prog 104 #[.slice A first.length ca, .slice B each.length cb, .slice C last.length cc, .slice D ls.length cd] w (IsTermE w (joinE first each last ls)) := by
  have HA := Lib.hid hA
  have HB := Lib.hid hB
  have HC := Lib.hid hC
  have HD := Lib.hid hD
  have HF := Lib.hid hf
  clear hA hB hC hD hf
  go_enter Tryd.func104, Tryd.ntmps104
  go_wp2_with fail
  go_step3
  go_wp2_with fail
  go_step3
  go_wp2_with fail
  go_loop [10, 23] (fun n i => ∃ j : Nat, j ≤ ls.length ∧ i = .int .i64 j ∧ n = .int .i64 ((first.length + last.length + sumL each.length (ls.take j) : Nat) : Int) ∧ first.length + last.length + sumL each.length (ls.take j) ≤ 1024) (fun n i => ls.length - (intOf i).toNat)
  case atStart => exact ⟨0, Nat.zero_le _, rfl, by simp [sumL], by simp [sumL]; omega⟩
  case round =>
    obtain ⟨j, hj, rfl, rfl, hs⟩ := hrel
    by_cases hlt : j < ls.length
    · obtain ⟨b, o, hA, Aj, cj, q0, q1, q2⟩ := HD.out j hlt
      subst hA
      have hi1 : (j : Int) < (ls.length : Int) := by omega
      have hi0 : (0 : Int) ≤ (j : Int) := Int.natCast_nonneg _
      have hfj := (HF.out j hlt).lim
      have hsum := Lib.hid (sumL_take (k := each.length) hlt)
      have hle := sumL_le (k := each.length) (j := j + 1) ls
      rw [hsum.out] at hle
      generalize sumL each.length (ls.take j) = S at *
      by_cases hbig : 1024 < first.length + last.length + (S + (each.length + ls[j].length))
      · have hF := Lib.hid (show joinE first each last ls = ([], 7) by rw [joinE, if_pos (by omega)])
        go_wp2
        go_ret2
        exact ⟨none, 0, by rw [hF.out]; rfl, by rw [hF.out]; exact row_nil _ _ _ _, Below.refl _ _⟩
      · go_wp2
        go_round
        case rel => exact ⟨j + 1, by omega, by go_num, by rw [hsum.out]; go_num, by rw [hsum.out]; omega⟩
        case measure => simp [intOf]; omega
    · have hj' : j = ls.length := by omega
      subst hj'
      rw [List.take_length] at hs
      have hF := Lib.hid (show joinE first each last ls = (first ++ joinL each ls ++ last, 0) by rw [joinE, if_neg (by omega)])
      have hT := Lib.hid (List.take_length (l := ls))
      have hlen := Lib.hid (joinL_length each ls)
      rw [List.take_length]
      generalize hS : sumL each.length ls = S at *
      have HS := Lib.hid hS
      clear hS
      go_wp2_with fail
      refine (clone_any first A ca _ HA.out (by omega)).mono ?_
      rintro e w1 ⟨A1, c1, rfl, hrow1, hB1⟩
      go_wp2_with fail
      go_loopw [13, 43] (fun v i wr => ∃ (j : Nat) (A' : Option Addr) (n c' : Nat), j ≤ ls.length ∧ i = .int .i64 j ∧ v = .slice A' n c' ∧ n = first.length + sumL each.length (ls.take j) ∧ wr.ownsRow w.heap.size 32 3 (.slice A' n c') n (encs (first ++ joinL each (ls.take j))) ∧ Below w.heap.size w wr) (fun v i wr => ls.length - (intOf i).toNat)
      case atStart => exact ⟨0, A1, _, c1, Nat.zero_le _, rfl, rfl, by simp [sumL], by simpa [joinL] using hrow1, hB1⟩
      case round =>
        obtain ⟨j, A', n, c', hj2, rfl, rfl, hn2, hrow, hB⟩ := hrel
        have HN := Lib.hid hn2
        clear hn2
        by_cases hlt2 : j < ls.length
        · obtain ⟨b, o, hD1, Aj, cj, q0, q1, q2⟩ := HD.out j hlt2
          subst hD1
          have q0' := cell_below hB q0
          have q2' := Lib.hid q2
          have hi1 : (j : Int) < (ls.length : Int) := by omega
          have hi0 : (0 : Int) ≤ (j : Int) := Int.natCast_nonneg _
          have hfj := (HF.out j hlt2).lim
          have hsum := Lib.hid (sumL_take (k := each.length) hlt2)
          have hjoin := Lib.hid (joinL_take (each := each) hlt2)
          have hle : n + each.length + ls[j].length ≤ 1024 := by
            have h5 := sumL_le (k := each.length) (j := j + 1) ls
            rw [hsum.out] at h5
            have h6 := HN.out
            have h7 := HS.out
            omega
          have HB' := Lib.hid (HB.out.below hB)
          have HX := Lib.hid (Src.of_reads HB'.out)
          clear q0 q2
          obtain ⟨i0, hi, hz0, hz1, hz2⟩ := info_parts cell_info
          go_wp2_with (first
            | (at_builtin
               refine wpList_app _ rfl (.tmp 47) (.tmp 48) _ rfl w.heap.size _ i0 _ 3 32 Tryd.underlying22 hi hz0 hz1 hz2 rfl (by omega) (.slice A' n c') n _ rfl hrow B each.length cb (encs each) rfl HX.out (by simp only [maxLen]; omega) (by omega) hB.size ?_
               intro v1 w2 hown2 hg2 hat2
               rw [← encs_append] at hown2
               have hB2 : Below w.heap.size w w2 := hB.grown hg2 hB.size (fun k hk => row_base hrow k hk)
               have HY := Lib.hid (Src.of_reads (q2'.out.below hB2))
               obtain ⟨A2, c2, rfl⟩ := row_slice hown2)
            | (at_builtin
               refine wpList_app _ rfl (.tmp 50) (.tmp 51) _ rfl w.heap.size _ i0 _ 3 32 Tryd.underlying22 hi hz0 hz1 hz2 rfl (by omega) (.slice A2 (n + each.length) c2) (n + each.length) _ rfl hown2 Aj ls[j].length cj (encs ls[j]) rfl HY.out (by simp only [maxLen]; omega) (by omega) hB2.size ?_
               intro v3 w3 hown3 hg3 hat3
               rw [← encs_append] at hown3
               have hB3 : Below w.heap.size w w3 := hB2.grown hg3 hB2.size (fun k hk => row_base hown2 k hk)
               obtain ⟨A3, c3, rfl⟩ := row_slice hown3))
          go_roundw
          case rel => exact ⟨j + 1, A3, _, c3, by omega, by go_num, rfl, by rw [HN.out, hsum.out]; omega, by rw [hjoin.out, ← List.append_assoc, ← List.append_assoc]; exact hown3, hB3⟩
          case measure => simp [intOf]; omega
        · obtain rfl : j = ls.length := by omega
          obtain rfl : n = first.length + S := by rw [HN.out, hT.out, HS.out]
          have HX := Lib.hid (Src.of_reads (HC.out.below hB))
          rw [hT.out] at hrow
          obtain ⟨i0, hi, hz0, hz1, hz2⟩ := info_parts cell_info
          go_wp2_with (at_builtin
                       refine wpList_app _ rfl (.tmp 54) (.tmp 55) _ rfl w.heap.size _ i0 _ 3 32 Tryd.underlying22 hi hz0 hz1 hz2 rfl (by omega) (.slice A' (first.length + S) c') (first.length + S) _ rfl hrow C last.length cc (encs last) rfl HX.out (by simp only [maxLen]; omega) (by omega) hB.size ?_
                       intro v1 w2 hown2 hg2 hat2
                       rw [← encs_append] at hown2
                       have hB2 : Below w.heap.size w w2 := hB.grown hg2 hB.size (fun k hk => row_base hrow k hk)
                       obtain ⟨A2, c2, rfl⟩ := row_slice hown2)
          go_ret2
          have hfin : (first ++ joinL each ls ++ last).length = first.length + S + last.length := by rw [List.length_append, List.length_append, hlen.out]
          refine ⟨A2, c2, ?_, ?_, hB2⟩
          · rw [hF.out, hfin]; rfl
          · rw [hF.out]
            show w2.ownsRow _ _ _ (.slice A2 (first ++ joinL each ls ++ last).length c2) (first ++ joinL each ls ++ last).length _
            rw [hfin]; exact hown2
end Go.Proofs.YtefpolgflimlgaaDoor.Tm
