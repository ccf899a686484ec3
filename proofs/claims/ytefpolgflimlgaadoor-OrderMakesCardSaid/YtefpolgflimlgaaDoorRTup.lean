/- The document's wrong, joined, Tuple, Cons, List of layer 5: what each answers. -/
import Derived.Test.YtefpolgflimlgaaDoorTup
namespace Go.Proofs.YtefpolgflimlgaaDoor.Tm
open Go.RowKit
set_option linter.unusedVariables false
set_option linter.unusedSimpArgs false

set_option maxHeartbeats 1000000 in
theorem rwrong_any (ls : List (List CellD)) (A : Option Addr) (c : Nat) (w : World) (hr : Reads2 w A ls) (hf : Fine2 ls) (hn : ls.length ≤ 1000000000000000) :
    Calls Tryd.prog 105 #[.slice A ls.length c] w fun e w' => e = .returned (.int .i64 (wrongE ls)) ∧ Below w.heap.size w w' := by
  have HR := Lib.hid hr
  have HF := Lib.hid hf
  clear hr hf
  go_enter Tryd.func105, Tryd.ntmps105
  go_wp2_with fail
  go_loopw [3] (fun i wr => ∃ j : Nat, j ≤ ls.length ∧ i = .int .i64 j ∧ Below w.heap.size w wr ∧ Hid (wrongE ls = wrongE (ls.drop j))) (fun i wr => ls.length - (intOf i).toNat)
  case atStart => exact ⟨0, Nat.zero_le _, rfl, Below.refl _ _, rfl⟩
  case round =>
    obtain ⟨j, hj, rfl, hB, hH⟩ := hrel
    by_cases hlt : j < ls.length
    · obtain ⟨b, o, hA, Aj, cj, q0, q1, q2⟩ := HR.out j hlt
      subst hA
      have q0' := cell_below hB q0
      have hfj := HF.out j hlt
      have HFJ := Lib.hid hfj
      have hi1 : (j : Int) < (ls.length : Int) := by omega
      have hi0 : (0 : Int) ≤ (j : Int) := Int.natCast_nonneg _
      clear q0 hfj
      go_wp2_with fail
      refine (rright_any ls[j] Aj cj _ (q2.below hB) HFJ.out.text HFJ.out.lim).mono ?_
      rintro e w1 ⟨rfl, hb⟩
      have hB1 := below_then hB hb
      by_cases he : (rightE ls[j]).1 = 0
      · have hF := Lib.hid (hH.out.trans (wrong_next hlt he))
        have ht : ((rightE ls[j]).1 != 0) = false := by rw [bne_eq_false_iff_eq]; exact he
        clear hH he
        go_wp2
        go_roundw
        case rel => exact ⟨j + 1, by omega, by go_num, hB1, hF⟩
        case measure => simp [intOf]; omega
      · have hF := Lib.hid (hH.out.trans (wrong_bad hlt he))
        have ht : ((rightE ls[j]).1 != 0) = true := by rw [bne_iff_ne]; exact he
        clear hH he
        go_wp2
        go_ret
        exact ⟨by rw [hF.out]; rfl, hB1⟩
    · have hF := Lib.hid (hH.out.trans (wrong_done (by omega)))
      clear hH
      go_wp2
      go_ret
      exact ⟨by rw [hF.out]; rfl, hB⟩
theorem rjoin_big {c : CellD} {ls : List (List CellD)} {j : Nat} (h : j < ls.length) (hb : 1024 < 1 + sumL 0 (ls.take j) + ls[j].length) : joinE [c] [] [] ls = ([], 7) := by
  have h1 := sumL_take (k := 0) h
  have h2 := sumL_le (k := 0) (j := j + 1) ls
  rw [joinE, if_pos (by simp; omega)]
theorem heap_new2 (w : World) (o p : Obj) : ((w.alloc o).alloc p).heap[w.heap.size + 1]? = some p := by have h := heap_new (w.alloc o) p; rwa [World.size_alloc] at h
theorem joinL_len0 (ls : List (List CellD)) : (joinL [] ls).length = sumL 0 ls := joinL_length [] ls
set_option maxHeartbeats 2000000 in
theorem rjoined_any (x : CellD) (ls : List (List CellD)) (A : Option Addr) (c : Nat) (w : World) (hr : Reads2 w A ls) (hf : Fine2 ls) (hn : ls.length ≤ 1000000000000000) :
    Calls Tryd.prog 106 #[.agg #[.int .i64 x.kind, .int .i64 x.n, .string x.text], .slice A ls.length c] w (IsTermE w (joinE [x] [] [] ls)) := by
  obtain ⟨i0, hi, hz0, hz1, hz2⟩ := info_parts cell_info
  have HR := Lib.hid hr
  have HF := Lib.hid hf
  clear hr hf
  go_enter Tryd.func106, Tryd.ntmps106
  go_wp2_with fail
  go_loopw [6, 7] (fun v i wr => ∃ (j : Nat) (A' : Option Addr) (n c' : Nat), j ≤ ls.length ∧ i = .int .i64 j ∧ v = .slice A' n c' ∧ Hid (n = 1 + sumL 0 (ls.take j)) ∧ n ≤ 1024 ∧ Hid (wr.ownsRow w.heap.size 32 3 (.slice A' n c') n (encs ([x] ++ joinL [] (ls.take j)))) ∧ Below w.heap.size w wr) (fun v i wr => ls.length - (intOf i).toNat)
  case atStart => exact ⟨0, _, 1, 1, Nat.zero_le _, rfl, rfl, by show 1 = 1 + 0; rfl, by omega, row_one (by simp) (heap_new2 _ _ _), below_then (below_one _ _) (below_one _ _)⟩
  case round =>
    obtain ⟨j, A', n, c', hj, rfl, rfl, HN, hle, hrow, hB⟩ := hrel
    by_cases hlt : j < ls.length
    · obtain ⟨b, o, hA, Aj, cj, q0, q1, q2⟩ := HR.out j hlt
      subst hA
      have q0' := cell_below hB q0
      have hfj := (HF.out j hlt).lim
      have hi1 : (j : Int) < (ls.length : Int) := by omega
      have hi0 : (0 : Int) ≤ (j : Int) := Int.natCast_nonneg _
      clear q0
      by_cases hbig : 1024 < n + ls[j].length
      · have hF := Lib.hid (rjoin_big (c := x) hlt (by rw [← HN.out]; exact hbig))
        have hb1 : (1024 : Int) - n < ls[j].length := by omega
        go_wp2
        go_ret2
        exact (IsTermE.none_ hB).eq hF.out
      · have hb1 : ¬ (1024 : Int) - n < ls[j].length := by omega
        have HX := Lib.hid (Src.of_reads (q2.below hB))
        have hsum := Lib.hid (sumL_take (k := 0) hlt)
        have hjoin := Lib.hid (joinL_take (each := []) hlt)
        go_wp2_with (at_builtin; refine wpList_app _ rfl (.tmp 25) (.tmp 29) _ rfl w.heap.size _ i0 _ 3 32 Tryd.underlying22 hi hz0 hz1 hz2 rfl (Nat.zero_lt_succ 2) (.slice A' n c') n _ rfl hrow.out Aj ls[j].length cj (encs ls[j]) rfl HX.out ?a4 ?a5 hB.size ?a7)
        case a4 => simp only [maxLen]; omega
        case a5 => omega
        case a7 =>
          intro v1 w2 hown2 hg2 hat2
          rw [← encs_append] at hown2
          have hB2 : Below w.heap.size w w2 := hB.grown hg2 hB.size (fun k hk => row_base hrow.out k hk)
          obtain ⟨A2, c2, rfl⟩ := row_slice hown2
          have HO := Lib.hid hown2
          clear hown2 hat2
          go_wp2
          go_roundw
          case rel => exact ⟨j + 1, A2, _, c2, by omega, by go_num, rfl, by show _ = _; rw [hsum.out, HN.out]; omega, by omega, by rw [hjoin.out]; show World.ownsRow _ _ _ _ _ _ _; simpa using HO.out, hB2⟩
          case measure => simp [intOf]; omega
    · obtain rfl : j = ls.length := by omega
      have hs := HN.out
      rw [List.take_length] at hs
      have hF := Lib.hid (show joinE [x] [] [] ls = ([x] ++ joinL [] ls ++ [], 0) by rw [joinE, if_neg (by simp; omega)])
      have hO := hrow.out
      rw [List.take_length] at hO
      have HO := Lib.hid hO
      have HL := Lib.hid (show ([x] ++ joinL [] ls ++ []).length = n by rw [List.append_nil, List.length_append, joinL_len0]; exact hs.symm)
      clear hs hO hrow
      go_wp2
      go_ret2
      refine ⟨A', c', ?_, ?_, hB⟩
      · rw [hF.out]; show _ = Ending.returned (.tuple #[.slice A' ([x] ++ joinL [] ls ++ []).length c', .int .i64 0]); rw [HL.out]; rfl
      · rw [hF.out]; show World.ownsRow _ _ _ _ (.slice A' ([x] ++ joinL [] ls ++ []).length c') ([x] ++ joinL [] ls ++ []).length (encs ([x] ++ joinL [] ls ++ [])); rw [HL.out, List.append_nil]; exact HO.out
set_option maxHeartbeats 1000000 in
theorem rtuple_any (ls : List (List CellD)) (A : Option Addr) (c : Nat) (w : World) (hr : Reads2 w A ls) (hf : Fine2 ls) (hn : ls.length ≤ 1000000000000000) :
    Calls Tryd.prog 32 #[.slice A ls.length c] w (IsTermE w (tupleE ls)) := by
  have HR := Lib.hid hr
  have HF := Lib.hid hf
  clear hr hf
  go_enter Tryd.func32, Tryd.ntmps32
  go_wp2_with fail
  refine (rwrong_any ls A c _ HR.out HF.out hn).mono ?_
  rintro e w1 ⟨rfl, hB1⟩
  by_cases he : wrongE ls = 0
  · have ht : (wrongE ls != 0) = false := by rw [bne_eq_false_iff_eq]; exact he
    by_cases hl : 255 < ls.length
    · have hF := Lib.hid (show tupleE ls = ([], 1) by rw [tupleE, if_neg (by simp [he]), if_pos hl])
      clear he
      go_wp2
      go_ret2
      exact (IsTermE.none_ hB1).eq hF.out
    · have hF := Lib.hid (show tupleE ls = joinE [tupC ls.length] [] [] ls by rw [tupleE, if_neg (by simp [he]), if_neg hl])
      have hl' : decide (255 < (ls.length : Int)) = false := decide_eq_false (by omega)
      clear he
      go_wp2_with fail
      refine (rjoined_any (tupC ls.length) ls A c _ (HR.out.below hB1) HF.out hn).mono ?_
      rintro e w2 ⟨A2, c2, rfl, hw⟩
      go_wp2
      go_ret2
      exact ((show IsTermE _ _ _ _ from ⟨A2, c2, rfl, hw⟩).up hB1).eq hF.out
  · have ht : (wrongE ls != 0) = true := by rw [bne_iff_ne]; exact he
    have hF := Lib.hid (show tupleE ls = ([], wrongE ls) by rw [tupleE, if_pos he])
    clear he
    go_wp2
    go_ret2
    exact (IsTermE.none_ hB1).eq hF.out
set_option maxHeartbeats 1000000 in
theorem rcons_any (l m : List CellD) (A B : Option Addr) (c d : Nat) (w : World) (hr : Reads w A l) (hr2 : Reads w B m) (hf : Fine l) (hf2 : Fine m) (hc : l.length ≤ c) (hd : m.length ≤ d) :
    Calls Tryd.prog 37 #[.slice A l.length c, .slice B m.length d] w (IsTermE w (consE l m)) := by
  have HR := Lib.hid hr
  have HR2 := Lib.hid hr2
  have HF := Lib.hid (two_fine hf hf2)
  have HS := Lib.hid (slAt_new2 (t := 22) hr hc hr2 hd)
  clear hr hr2 hf hf2
  go_enter Tryd.func37, Tryd.ntmps37
  go_wp2_with fail
  refine (rwrong_any [l, m] _ 2 _ HS.out HF.out (by simp)).mono ?_
  rintro e w1 ⟨rfl, hb1⟩
  have hB1 := below_then (below_one _ _) hb1
  clear hb1
  by_cases he : wrongE [l, m] = 0
  · have ht : (wrongE [l, m] != 0) = false := by rw [bne_eq_false_iff_eq]; exact he
    have hF := Lib.hid (show consE l m = joinE [consC] [] [] [l, m] by rw [consE, if_neg (by simp [he])])
    clear he
    go_wp2_with fail
    have HS2 := Lib.hid (slAt_new2 (t := 22) (HR.out.below hB1) hc (HR2.out.below hB1) hd)
    have hB3 := below_then hB1 (below_one _ (.cells #[.slice A l.length c, .slice B m.length d] 22))
    refine (rjoined_any consC [l, m] (some ⟨w1.heap.size, 0, none⟩) 2 _ HS2.out HF.out (by simp)).mono ?_
    rintro e w2 ⟨A2, c2, rfl, hw⟩
    go_wp2
    go_ret2
    exact ((show IsTermE _ _ _ _ from ⟨A2, c2, rfl, hw⟩).up hB3).eq hF.out
  · have ht : (wrongE [l, m] != 0) = true := by rw [bne_iff_ne]; exact he
    have hF := Lib.hid (show consE l m = ([], wrongE [l, m]) by rw [consE, if_pos he])
    clear he
    go_wp2
    go_ret2
    exact (IsTermE.none_ hB1).eq hF.out
theorem rlist_big {ls : List (List CellD)} {j : Nat} (h : j < ls.length) (he : wrongE ls = 0) (hb : 1024 < 1 + sumL 1 (ls.take j) + 1 + ls[j].length) : listE ls = ([], 7) := by
  have h1 := sumL_take (k := 1) h
  have h2 := sumL_le (k := 1) (j := j + 1) ls
  rw [listE, if_neg (by simp [he]), joinE, if_pos (by simp; omega)]
set_option maxRecDepth 100000 in
set_option maxHeartbeats 4000000 in
theorem rlist_any (ls : List (List CellD)) (A : Option Addr) (c : Nat) (w : World) (hr : Reads2 w A ls) (hf : Fine2 ls) (hn : ls.length ≤ 1000000000000000) :
    Calls Tryd.prog 34 #[.slice A ls.length c] w (IsTermE w (listE ls)) := by
  obtain ⟨i0, hi, hz0, hz1, hz2⟩ := info_parts cell_info
  have HR := Lib.hid hr
  have HF := Lib.hid hf
  clear hr hf
  go_enter Tryd.func34, Tryd.ntmps34
  go_wp2_with fail
  refine (rwrong_any ls A c _ HR.out HF.out hn).mono ?_
  rintro e w1 ⟨rfl, hB1⟩
  by_cases he : wrongE ls = 0
  · have ht : (wrongE ls != 0) = false := by rw [bne_eq_false_iff_eq]; exact he
    have HE := Lib.hid he
    clear he
    go_wp2_with fail
    go_loop [5, 6] (fun n i => ∃ j : Nat, j ≤ ls.length ∧ i = .int .i64 j ∧ n = .int .i64 ((1 + sumL 1 (ls.take j) : Nat) : Int) ∧ 1 + sumL 1 (ls.take j) ≤ 1024) (fun n i => ls.length - (intOf i).toNat)
    case atStart => exact ⟨0, Nat.zero_le _, rfl, by simp [sumL], by simp [sumL]⟩
    case round =>
      obtain ⟨j, hj, rfl, rfl, hs⟩ := hrel
      by_cases hlt : j < ls.length
      · obtain ⟨b, o, hA, Aj, cj, q0, q1, q2⟩ := HR.out j hlt
        subst hA
        have q0' := cell_below hB1 q0
        have hi1 : (j : Int) < (ls.length : Int) := by omega
        have hi0 : (0 : Int) ≤ (j : Int) := Int.natCast_nonneg _
        have hfj := (HF.out j hlt).lim
        have hbg := Lib.hid (rlist_big hlt HE.out)
        have hsum := Lib.hid (sumL_take (k := 1) hlt)
        generalize sumL 1 (ls.take j) = S at *
        clear q0
        by_cases hbig : 1024 < 1 + S + 1 + ls[j].length
        · have hF := Lib.hid (hbg.out hbig)
          have hb1 : (1024 : Int) < 1 + (S : Int) + 1 + ls[j].length := by omega
          clear hbg
          go_wp2
          go_ret2
          exact (IsTermE.none_ hB1).eq hF.out
        · clear hbg
          go_wp2
          go_round
          case rel => exact ⟨j + 1, by omega, by go_num, by rw [hsum.out]; go_num, by rw [hsum.out]; omega⟩
          case measure => simp [intOf]; omega
      · have hj' : j = ls.length := by omega
        subst hj'
        rw [List.take_length] at hs
        have hF := Lib.hid (show listE ls = ([] ++ joinL [consC] ls ++ [nilC], 0) by rw [listE, if_neg (by simp [HE.out]), joinE, if_neg (by simp; omega)])
        have hT := Lib.hid (List.take_length (l := ls))
        have hlen := Lib.hid (joinL_length [consC] ls)
        rw [List.take_length]
        generalize hS : sumL 1 ls = S at *
        have HS := Lib.hid hS
        clear hS
        go_wp2_with fail
        go_loopw [7, 8] (fun v i wr => ∃ (j : Nat) (A' : Option Addr) (n c' : Nat), j ≤ ls.length ∧ i = .int .i64 j ∧ v = .slice A' n c' ∧ Hid (n = sumL 1 (ls.take j)) ∧ n ≤ 1024 ∧ Hid (wr.ownsRow w.heap.size 32 3 (.slice A' n c') n (encs (joinL [consC] (ls.take j)))) ∧ Below w.heap.size w wr) (fun v i wr => ls.length - (intOf i).toNat)
        case atStart => exact ⟨0, none, 0, 0, Nat.zero_le _, rfl, rfl, by show 0 = 0; rfl, by omega, row_nil _ _ _ _, hB1⟩
        case round =>
          obtain ⟨j, A', n, c', hj2, rfl, rfl, HN, hn1, hrow, hB⟩ := hrel
          by_cases hlt2 : j < ls.length
          · obtain ⟨b, o, hD1, Aj, cj, q0, q1, q2⟩ := HR.out j hlt2
            subst hD1
            have hi1 : (j : Int) < (ls.length : Int) := by omega
            have hi0 : (0 : Int) ≤ (j : Int) := Int.natCast_nonneg _
            have hfj := (HF.out j hlt2).lim
            have hsum := Lib.hid (sumL_take (k := 1) hlt2)
            have hjoin := Lib.hid (joinL_take (each := [consC]) hlt2)
            have hle : n + 1 + ls[j].length ≤ 1024 := by
              have h5 := sumL_le (k := 1) (j := j + 1) ls
              rw [hsum.out] at h5
              have h6 := HN.out
              have h7 := HS.out
              omega
            have Q0 := Lib.hid q0
            have Q2 := Lib.hid q2
            clear q0 q2
            go_wp2_with (at_builtin; refine wpList_app _ rfl (.tmp 36) (.tmp 38) _ rfl w.heap.size _ i0 _ 3 32 Tryd.underlying22 hi hz0 hz1 hz2 rfl (Nat.zero_lt_succ 2) (.slice A' n c') n (encs (joinL [consC] (ls.take j))) rfl ?a2 (some ⟨wr.heap.size, 0, none⟩) 1 1 (encs [consC]) rfl ?a3 ?a4 ?a5 ?a6 ?a7)
            case a2 => exact hrow.out.alloc _
            case a3 => exact Src.of_one (new_cell wr consC _)
            case a4 => simp only [maxLen]; omega
            case a5 => omega
            case a6 => rw [World.size_alloc]; have := hB.size; omega
            case a7 =>
              intro v1 w2 hown2 hg2 hat2
              rw [← encs_append] at hown2
              have hB2 : Below w.heap.size w w2 := (below_alloc' hB _).grown hg2 (below_alloc' hB _).size (fun k hk => row_base hrow.out k hk)
              obtain ⟨A2, c2, rfl⟩ := row_slice hown2
              have q0' := cell_below hB2 Q0.out
              have HY := Lib.hid (Src.of_reads (Q2.out.below hB2))
              have HO := Lib.hid hown2
              clear hown2 hat2
              go_wp2_with (at_builtin; refine wpList_app _ rfl (.tmp 40) (.tmp 44) _ rfl w.heap.size _ i0 _ 3 32 Tryd.underlying22 hi hz0 hz1 hz2 rfl (Nat.zero_lt_succ 2) (.slice A2 (n + 1) c2) (n + 1) _ rfl HO.out Aj ls[j].length cj (encs ls[j]) rfl HY.out ?b4 ?b5 hB2.size ?b7)
              case b4 => simp only [maxLen]; omega
              case b5 => omega
              case b7 =>
                intro v3 w3 hown3 hg3 hat3
                rw [← encs_append] at hown3
                have hB3 : Below w.heap.size w w3 := hB2.grown hg3 hB2.size (fun k hk => row_base HO.out k hk)
                obtain ⟨A3, c3, rfl⟩ := row_slice hown3
                have HO3 := Lib.hid hown3
                clear hown3 hat3
                go_wp2
                go_roundw
                case rel => exact ⟨j + 1, A3, _, c3, by omega, by go_num, rfl, by show _ = _; rw [hsum.out, HN.out]; omega, by omega, by rw [hjoin.out, ← List.append_assoc]; exact HO3.out, hB3⟩
                case measure => simp [intOf]; omega
          · obtain rfl : j = ls.length := by omega
            have hn' := HN.out
            rw [hT.out, HS.out] at hn'
            subst hn'
            have hO := hrow.out
            rw [hT.out] at hO
            have HO := Lib.hid hO
            clear hO hrow HN
            go_wp2_with (at_builtin; refine wpList_app _ rfl (.tmp 46) (.tmp 48) _ rfl w.heap.size _ i0 _ 3 32 Tryd.underlying22 hi hz0 hz1 hz2 rfl (Nat.zero_lt_succ 2) (.slice A' n c') n (encs (joinL [consC] ls)) rfl ?a2 (some ⟨wr.heap.size, 0, none⟩) 1 1 (encs [nilC]) rfl ?a3 ?a4 ?a5 ?a6 ?a7)
            case a2 => exact HO.out.alloc _
            case a3 => exact Src.of_one (new_cell wr nilC _)
            case a4 => simp only [maxLen]; omega
            case a5 => omega
            case a6 => rw [World.size_alloc]; have := hB.size; omega
            case a7 =>
              intro v1 w2 hown2 hg2 hat2
              rw [← encs_append] at hown2
              have hB2 : Below w.heap.size w w2 := (below_alloc' hB _).grown hg2 (below_alloc' hB _).size (fun k hk => row_base HO.out k hk)
              obtain ⟨A2, c2, rfl⟩ := row_slice hown2
              have HO2 := Lib.hid hown2
              clear hown2 hat2
              have HL := Lib.hid (show ([] ++ joinL [consC] ls ++ [nilC]).length = n + 1 by rw [List.nil_append, List.length_append, hlen.out]; rfl)
              go_wp2
              go_ret2
              refine ⟨A2, c2, ?_, ?_, hB2⟩
              · rw [hF.out]; show _ = Ending.returned (.tuple #[.slice A2 ([] ++ joinL [consC] ls ++ [nilC]).length c2, .int .i64 0]); rw [HL.out]; rfl
              · rw [hF.out]; show World.ownsRow _ _ _ _ (.slice A2 ([] ++ joinL [consC] ls ++ [nilC]).length c2) ([] ++ joinL [consC] ls ++ [nilC]).length (encs ([] ++ joinL [consC] ls ++ [nilC])); rw [HL.out, List.nil_append]; exact HO2.out
  · have ht : (wrongE ls != 0) = true := by rw [bne_iff_ne]; exact he
    have hF := Lib.hid (show listE ls = ([], wrongE ls) by rw [listE, if_pos he])
    clear he
    go_wp2
    go_ret2
    exact (IsTermE.none_ hB1).eq hF.out
end Go.Proofs.YtefpolgflimlgaaDoor.Tm
