/- The law WordEnds: whatever the cells, it returns true. -/
import Derived.Test.YtofpbiadnbbaoaaDoorEndsP
import Derived.Test.YtofpbiadnbbaoaaDoorRight
import Derived.Test.YtofpbiadnbbaoaaDoorEnd
import Derived.Test.YtofpbiadnbbaoaaDoorLent
import Derived.Test.YtofpbiadnbbaoaaDoorKnown
namespace Go.Proofs.YtofpbiadnbbaoaaDoor.Tm
open Go.RowKit
set_option linter.unusedVariables false
set_option linter.unusedSimpArgs false

theorem wright_at (l : List CellD) (A : Option Addr) (n cap : Nat) (w : World) (hn : n = l.length) (hr : Reads w A l) (hs : ∀ j (h : j < l.length), (l[j]).text.size ≤ 9223372036854775807) (hl : l.length ≤ 1000000000000000)
    (hT : Lib.Utf8Tabs 0 1 w) :
    Calls Tryd.prog 6 #[.slice A n cap] w fun e w' => e = .returned (.tuple #[.int .i64 (rightE l).1, .int .i64 (rightE l).2]) ∧ Below w.heap.size w w' := by
  subst hn; exact wright_any l A cap w hr hs hl hT

set_option maxHeartbeats 4000000 in
theorem wordEnds_any (l : List CellD) (c : CellD) (A : Option Addr) (cap : Nat) (w : World) (hr : Reads w A l) (hs : ∀ j (h : j < l.length), (l[j]).text.size ≤ 9223372036854775807) (hc : c.text.size ≤ 9223372036854775807)
    (hl : l.length ≤ 1000000000000000) (hcap : l.length ≤ cap) (hT : Lib.Utf8Tabs 0 1 w) :
    Calls Tryd.prog 3 #[.slice A l.length cap, .agg #[.int .i64 c.kind, .int .i64 c.n, .string c.text]] w fun e w' => e = .returned (.bool true) ∧ Below w.heap.size w w' := by
  have HR := Lib.hid hr
  have HS := Lib.hid hs
  have HT := Lib.hid hT
  clear hr hs hT
  have hl2 : l.length ≤ 1000000000000000 := by omega
  have hx0 := new_cell w c 24
  have hB0 := below_one w (.cells #[.int .i64 c.kind, .int .i64 c.n, .string c.text] 24)
  go_enter Tryd.func3, Tryd.ntmps3
  go_wp2_with fail
  refine (rright_any l A cap _ (HR.out.below hB0) HS.out hl2).mono ?_
  rintro e w1 ⟨rfl, hb1⟩
  have hB1 := below_then hB0 hb1
  have hx1 := hx0.below hb1
  clear hx0 hB0 hb1
  by_cases he : (rightE l).1 = 0
  · have HE := Lib.hid he
    rw [he]
    clear he
    generalize hE2 : (rightE l).2 = E2
    clear hE2
    go_wp2_with fail
    go_loopw [9] (fun i wr => ∃ j : Nat, j ≤ l.length ∧ i = .int .i64 j ∧ Below w.heap.size w wr ∧ Hid (CellAt wr w.heap.size 0 c)) (fun i wr => l.length - (intOf i).toNat)
    case atStart => exact ⟨0, by omega, rfl, hB1, hx1⟩
    case round =>
      obtain ⟨j, hj, rfl, hB, hx⟩ := hrel
      by_cases hlt : j < l.length
      · obtain ⟨m, hm1, hm2, hm3, hm4⟩ := endE_of_right HE.out hlt
        go_wp2_with fail
        refine (wend_any l A cap j _ (HR.out.below hB) hl2 (by omega)).mono ?_
        rintro e w2 ⟨rfl, hb2⟩
        rw [hm1]
        have hB2 := below_then hB hb2
        have hx2 := Lib.hid (hx.out.below hb2)
        have t1 : (decide ((m : Int) ≤ (j : Int))) = false := decide_eq_false (by omega)
        have t2 : (decide ((l.length : Int) < (m : Int))) = false := decide_eq_false (by omega)
        by_cases hj0 : j = 0
        · have t4 : ((m : Int) != (l.length : Int)) = false := by rw [bne_eq_false_iff_eq]; have := hm4 hj0; omega
          have t3 : ((j : Int) == 0) = true := by rw [beq_iff_eq]; omega
          clear hj0 hm4
          go_wp2
          go_roundw
          case rel => exact ⟨j + 1, by omega, by go_num, hB2, hx2⟩
          case measure => simp [intOf]; omega
        · have t3 : ((j : Int) == 0) = false := beq_eq_false_iff_ne.2 (by omega)
          go_wp2
          go_roundw
          case rel => exact ⟨j + 1, by omega, by go_num, hB2, hx2⟩
          case measure => simp [intOf]; omega
      · have hl0 := (rightE_ok HE.out).2.1
        have hl1 := (rightE_ok HE.out).2.2
        obtain ⟨b, o, hA, _⟩ := HR.out 0 (by omega)
        subst hA
        obtain ⟨i0, hi, hz0, hz1, hz2⟩ := info_parts cell_info
        obtain ⟨hx0, hx1', hx2⟩ := hx.out
        have hwr := hB.size
        have hSrc := Src.of_reads (HR.out.below hB)
        go_wp2_with (first
          | (at_builtin
             refine wpList_app _ rfl (.tmp 68) (.tmp 69) _ rfl wr.heap.size _ i0 _ 3 32 Tryd.underlying22 hi hz0 hz1 hz2 rfl (by omega) (.slice none 0 0) 0 [] rfl (row_nil _ _ _ _) _ l.length cap (encs l) rfl hSrc (by simp only [maxLen]; omega) (by omega) (Nat.le_refl _) ?_
             intro v1 w3 hown1 hg1 hat1
             rw [Nat.zero_add, List.nil_append] at hown1
             have hB3 : Below wr.heap.size wr w3 := (Below.refl _ _).grown hg1 (Nat.le_refl _) (by simp [Value.ownBlock])
             have hsz3 := hB3.size
             have hx3 := hx.out.below hB3
             obtain ⟨hx30, hx31, hx32⟩ := hx3
             obtain ⟨A1, c1, rfl⟩ := row_slice hown1)
          | (at_builtin
             refine wpList_app _ rfl (.tmp 71) (.tmp 73) _ rfl wr.heap.size _ i0 _ 3 32 Tryd.underlying22 hi hz0 hz1 hz2 rfl (by omega) (.slice A1 l.length c1) l.length (encs l) rfl (hown1.alloc _) (some ⟨w3.heap.size, 0, none⟩) 1 1 (encs [c]) rfl (Src.of_one (new_cell w3 c _)) (by simp only [maxLen]; omega) (by omega) (by rw [World.size_alloc]; omega) ?_
             intro v2 w4 hown2 hg2 hat2
             rw [← encs_append] at hown2
             have hB4 : Below wr.heap.size wr w4 := (below_alloc' hB3 _).grown hg2 (below_alloc' hB3 _).size (fun k hk => row_base hown1 k hk)
             obtain ⟨A2, c2, rfl⟩ := row_slice hown2))
        have hBw := below_then hB hB4
        have hx4 := hx.out.below hB4
        have hR4 : Reads w4 A2 (l ++ [c]) := Reads.of_row (base := wr.heap.size) (cap := c2) (e := 24) (by simpa using hown2)
        have hS4 : ∀ j (h : j < (l ++ [c]).length), ((l ++ [c])[j]).text.size ≤ 9223372036854775807 := by
          intro j h
          rw [List.getElem_append]
          split
          · exact HS.out j _
          · simpa using hc
        refine (wright_at (l ++ [c]) A2 (l.length + 1) c2 _ (by simp) hR4 hS4 (by simp; omega) (Utf8Tabs_below HT.out hBw)).mono ?_
        rintro e w5 ⟨rfl, hb5⟩
        have hBw5 := below_then hBw hb5
        obtain ⟨hx50, hx51, hx52⟩ := hx4.below hb5
        clear hx4 hR4 hS4 hown2 hg2 hat2 hown1 hg1 hat1 hSrc
        have hW := rightE_less HE.out
        have hM := fun h1 h2 => rightE_more HE.out (c := c) h1 h2
        have hS5 : ∀ j (h : j < (l.take (l.length - 1)).length), ((l.take (l.length - 1))[j]).text.size ≤ 9223372036854775807 := by
          intro j h
          rw [List.getElem_take]
          exact HS.out j _
        by_cases d1 : l.length + 1 ≤ 1024
        · have t1 : (decide ((l.length : Int) + 1 ≤ 1024)) = true := decide_eq_true (by omega)
          by_cases d2 : cellE c = 0
          · rw [hM d1 d2]
            have t3 : ((l.length : Int) != (l.length : Int)) = false := by simp
            go_wp2_with fail
            refine (rcell_any c _ hc).mono ?_
            rintro e w6 ⟨rfl, hb6⟩
            rw [d2]
            have hBw6 := below_then hBw5 hb6
            go_wp2_with fail
            refine (wright_at (l.take (l.length - 1)) _ _ cap _ (by simp) ((HR.out.below hBw6).take _) hS5 (by simp; omega) (Utf8Tabs_below HT.out hBw6)).mono ?_
            rintro e w7 ⟨rfl, hb7⟩
            rw [hW]
            have hB7 := below_then hBw6 hb7
            by_cases h1 : l.length = 1
            · rw [if_pos h1]
              have t9 : ((l.length : Int) == 1) = true := by rw [beq_iff_eq]; omega
              clear h1 hW hM
              go_wp2_with fail
              refine (known_any _).mono ?_
              rintro e w8 ⟨rfl, rfl⟩
              go_wp2
              go_ret
              exact ⟨rfl, hB7⟩
            · rw [if_neg h1]
              have t9 : ((l.length : Int) == 1) = false := beq_eq_false_iff_ne.2 (by omega)
              clear h1 hW hM
              go_wp2_with fail
              refine (known_any _).mono ?_
              rintro e w8 ⟨rfl, rfl⟩
              go_wp2
              go_ret
              exact ⟨rfl, hB7⟩
          · have t2 : (cellE c == 0) = false := beq_eq_false_iff_ne.2 d2
            generalize (rightE (l ++ [c])).1 = E3
            generalize (rightE (l ++ [c])).2 = E4
            go_wp2_with fail
            refine (rcell_any c _ hc).mono ?_
            rintro e w6 ⟨rfl, hb6⟩
            generalize cellE c = EC at t2
            have hBw6 := below_then hBw5 hb6
            go_wp2_with fail
            refine (wright_at (l.take (l.length - 1)) _ _ cap _ (by simp) ((HR.out.below hBw6).take _) hS5 (by simp; omega) (Utf8Tabs_below HT.out hBw6)).mono ?_
            rintro e w7 ⟨rfl, hb7⟩
            rw [hW]
            have hB7 := below_then hBw6 hb7
            by_cases h1 : l.length = 1
            · rw [if_pos h1]
              have t9 : ((l.length : Int) == 1) = true := by rw [beq_iff_eq]; omega
              clear h1 hW hM
              go_wp2_with fail
              refine (known_any _).mono ?_
              rintro e w8 ⟨rfl, rfl⟩
              go_wp2
              go_ret
              exact ⟨rfl, hB7⟩
            · rw [if_neg h1]
              have t9 : ((l.length : Int) == 1) = false := beq_eq_false_iff_ne.2 (by omega)
              clear h1 hW hM
              go_wp2_with fail
              refine (known_any _).mono ?_
              rintro e w8 ⟨rfl, rfl⟩
              go_wp2
              go_ret
              exact ⟨rfl, hB7⟩
        · have t1 : (decide ((l.length : Int) + 1 ≤ 1024)) = false := decide_eq_false (by omega)
          generalize (rightE (l ++ [c])).1 = E3
          generalize (rightE (l ++ [c])).2 = E4
          go_wp2_with fail
          refine (wright_at (l.take (l.length - 1)) _ _ cap _ (by simp) ((HR.out.below hBw5).take _) hS5 (by simp; omega) (Utf8Tabs_below HT.out hBw5)).mono ?_
          rintro e w7 ⟨rfl, hb7⟩
          rw [hW]
          have hB7 := below_then hBw5 hb7
          by_cases h1 : l.length = 1
          · rw [if_pos h1]
            have t9 : ((l.length : Int) == 1) = true := by rw [beq_iff_eq]; omega
            clear h1 hW hM
            go_wp2_with fail
            refine (known_any _).mono ?_
            rintro e w8 ⟨rfl, rfl⟩
            go_wp2
            go_ret
            exact ⟨rfl, hB7⟩
          · rw [if_neg h1]
            have t9 : ((l.length : Int) == 1) = false := beq_eq_false_iff_ne.2 (by omega)
            clear h1 hW hM
            go_wp2_with fail
            refine (known_any _).mono ?_
            rintro e w8 ⟨rfl, rfl⟩
            go_wp2
            go_ret
            exact ⟨rfl, hB7⟩
  · have ht : ((rightE l).1 != 0) = true := by rw [bne_iff_ne]; exact he
    go_wp2_with fail
    refine (wright_any l A cap _ (HR.out.below hB1) HS.out hl2 (Utf8Tabs_below HT.out hB1)).mono ?_
    rintro e w2 ⟨rfl, hb2⟩
    have hB2 := below_then hB1 hb2
    generalize (rightE l).1 = E1 at he ht
    generalize (rightE l).2 = E2
    go_wp2_with fail
    refine (known_any _).mono ?_
    rintro e w3 ⟨rfl, rfl⟩
    go_wp2
    go_ret
    exact ⟨rfl, hB2⟩
theorem wordEnds_row (A : Option Addr) (cap : Nat) (l : List CellD) (c : CellD) (w : World) (hT : Lib.Utf8Tabs 0 1 w) (hcap : l.length ≤ cap) (hr : Reads w A l) (hs : ∀ j (h : j < l.length), (l[j]).text.size ≤ 9223372036854775807)
    (hy : l.length * 32 ≤ 140737488351232) (hc : c.text.size ≤ 9223372036854775807) :
    Calls Tryd.prog 3 #[.slice A l.length cap, .agg #[.int .i64 c.kind, .int .i64 c.n, .string c.text]] w fun e w' => e = .returned (.bool true) ∧ Below w.heap.size w w' :=
  wordEnds_any l c A cap w hr hs hc (by omega) hcap hT
end Go.Proofs.YtofpbiadnbbaoaaDoor.Tm
