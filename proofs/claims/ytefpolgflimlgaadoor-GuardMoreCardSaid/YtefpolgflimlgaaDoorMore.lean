/- The law GuardMore. -/
import Derived.Test.YtefpolgflimlgaaDoorMoreP
import Derived.Deep.DeepCutAuto
namespace Go.Proofs.YtefpolgflimlgaaDoor.Tm
open Go.RowKit
set_option linter.unusedVariables false
set_option linter.unusedSimpArgs false

theorem gHolds_at (n : Nat) (g : List TestD) (hn : g.length = n) (x : List (List CellD)) (A B : Option Addr) (c d : Nat) (w : World) (hr : TReads w A g) (hf : FineT g) (hx : Reads2 w B x) (hfx : Fine2 x) (hl : x.length ≤ 1000000000000000) (hT : Tabs w) :
    Calls Tryd.prog 40 #[.slice A n c, .slice B x.length d] w fun e w' => e = .returned (.tuple #[.bool (holdsE g x).1, .int .i64 (holdsE g x).2]) ∧ Below w.heap.size w w' := by
  subst hn
  exact gHolds_any g x A B c d w hr hf hx hfx hl hT
set_option maxRecDepth 100000 in
set_option maxHeartbeats 4000000 in
theorem guardMore_any (g h : List TestD) (x : List (List CellD)) (A B C : Option Addr) (c d cx : Nat) (w : World) (hr : TReads w A g) (hf : FineT g) (hr2 : TReads w B h) (hf2 : FineT h) (hx : Reads2 w C x) (hfx : Fine2 x) (hl : x.length ≤ 1000000000000000) (hc : g.length ≤ c) (hd : h.length ≤ d) (hT : Tabs w) :
    Calls Tryd.prog 6 #[.slice A g.length c, .slice B h.length d, .slice C x.length cx] w fun e w' => e = .returned (.bool true) ∧ Below w.heap.size w w' := by
  obtain ⟨i0, hi, hz0, hz1, hz2⟩ := info_parts test_info
  have G1 := Lib.hid (hr.take 8)
  have G2 := Lib.hid (hr2.take 8)
  have F1 := Lib.hid (hf.take 8)
  have F2 := Lib.hid (hf2.take 8)
  have n1 : (g.take 8).length ≤ 8 := List.length_take_le 8 g
  have n2 : (h.take 8).length ≤ 8 := List.length_take_le 8 h
  have HX := Lib.hid hx
  have HFX := Lib.hid hfx
  have HT := Lib.hid hT
  have hgl := hf.len
  have hhl := hf2.len
  have L1 := Lib.hid (List.length_take (i := 8) (l := g))
  have L2 := Lib.hid (List.length_take (i := 8) (l := h))
  clear hr hf hr2 hf2 hx hfx hT
  have N1 := Lib.hid (show 8 < g.length → 8 = (g.take 8).length by intro k; rw [List.length_take]; omega)
  have N2 := Lib.hid (show 8 < h.length → 8 = (h.take 8).length by intro k; rw [List.length_take]; omega)
  have M1 := Lib.hid (show ¬ 8 < g.length → g.length = (g.take 8).length by intro k; rw [List.length_take]; omega)
  have M2 := Lib.hid (show ¬ 8 < h.length → h.length = (h.take 8).length by intro k; rw [List.length_take]; omega)
  generalize g.take 8 = g' at *
  generalize h.take 8 = h' at *
  go_enter Tryd.func6, Tryd.ntmps6
  go_upto_if 22 with (fail)
  go_cut [0] (fun s0 wx => s0 = .slice A g'.length c ∧ wx = w)
  case first =>
    by_cases k1 : 8 < g.length
    · have z : (8 : Int) ≤ (c : Int) := by omega
      go_wp2_with fail
      go_meet
      exact ⟨by rw [← N1.out k1], rfl⟩
    · go_wp2_with fail
      go_meet
      exact ⟨by rw [← M1.out k1], rfl⟩
  case rest =>
    obtain ⟨rfl, rfl⟩ := hcut
    go_upto_if 27 with (fail)
    go_cut [1] (fun s1 wx => s1 = .slice B h'.length d ∧ wx = wc)
    case first =>
      by_cases k2 : 8 < h.length
      · have z : (8 : Int) ≤ (d : Int) := by omega
        go_wp2_with fail
        go_meet
        exact ⟨by rw [← N2.out k2], rfl⟩
      · go_wp2_with fail
        go_meet
        exact ⟨by rw [← M2.out k2], rfl⟩
    case rest =>
      obtain ⟨rfl, rfl⟩ := hcut
      clear N1 N2 M1 M2 L1 L2
      go_wp2_with fail
      refine (gHolds_any g' x A C c cx _ G1.out F1.out HX.out HFX.out hl HT.out).mono ?_
      rintro e w1 ⟨rfl, hB1⟩
      go_wp2_with fail
      go_loopw [9, 10] (fun v i wr => ∃ (k : Nat) (A' : Option Addr) (c' : Nat), k ≤ g'.length ∧ i = .int .i64 ((g'.length : Int) - 1 - k) ∧ v = .slice A' k c' ∧ Hid (wr.ownsRow wc.heap.size 51 7 (.slice A' k c') k (encT (g'.reverse.take k))) ∧ Below wc.heap.size wc wr) (fun v i wr => (intOf i + 1).toNat)
      case atStart => exact ⟨0, none, 0, Nat.zero_le _, by go_num, rfl, row_nil _ _ _ _, hB1⟩
      case round =>
        obtain ⟨k, A', c', hk, rfl, rfl, hrow, hB⟩ := hrel
        by_cases hlt : k < g'.length
        · obtain ⟨j, hj⟩ : ∃ j : Nat, j = g'.length - 1 - k := ⟨_, rfl⟩
          have hjl : j < g'.length := by omega
          obtain ⟨b, o, hA, ht⟩ := G1.out j hjl
          subst hA
          have RT2 := Lib.hid (rev_take_at hlt hj hjl)
          have hji : (g'.length : Int) - 1 - k = (j : Int) := by omega
          have HJI := Lib.hid hji
          obtain ⟨q0, q1, q2, q3, q4, q5, q6⟩ := ht.below hB
          rw [hji]
          clear hj hji ht
          have hi1 : (j : Int) < (g'.length : Int) := by omega
          have hi0 : (0 : Int) ≤ (j : Int) := Int.natCast_nonneg _
          generalize g'[j] = t at *
          go_wp2_with (at_builtin; refine wpList_app _ rfl (.tmp 43) (.tmp 48) _ rfl wc.heap.size _ i0 _ 7 72 Tryd.underlying42 hi hz0 hz1 hz2 rfl (Nat.zero_lt_succ 6) (.slice A' k c') k (encT (g'.reverse.take k)) rfl ?b0 (some ⟨wr.heap.size, 0, none⟩) 1 1 (encT [t]) rfl ?b1 ?b2 ?b3 ?b4 ?b5)
          case b0 => exact hrow.out.alloc _
          case b1 => exact Src.of_test (TReads.new wr rfl)
          case b2 => simp only [maxLen]; omega
          case b3 => omega
          case b4 => rw [World.size_alloc]; have := hB.size; omega
          case b5 =>
            intro v2 w2 hown2 hg2 hat2
            rw [← encT_append, ← RT2.out] at hown2
            have hB2 : Below wc.heap.size wc w2 := (below_alloc' hB _).grown hg2 (below_alloc' hB _).size (fun q hq => row_base hrow.out q hq)
            obtain ⟨A2, c2, rfl⟩ := row_slice hown2
            have HO := Lib.hid hown2
            clear hown2 hat2 q0 q1 q2 q3 q4 q5 q6
            go_wp2
            go_roundw
            case rel => exact ⟨k + 1, A2, c2, by omega, by have := HJI.out; go_num, rfl, HO, hB2⟩
            case measure =>
              simp [intOf]
              try omega
        · obtain rfl : k = g'.length := by omega
          have hz : (g'.length : Int) - 1 - (g'.length : Int) = -1 := by omega
          rw [hz]
          have hO := hrow.out
          rw [List.take_of_length_le (by simp)] at hO
          have HO := Lib.hid hO
          have HG1 := Lib.hid (Src.of_treads (G1.out.below hB))
          clear hO hrow hz
          go_wp2_with (at_builtin; refine wpList_app _ rfl (.tmp 50) (.tmp 51) _ rfl wc.heap.size _ i0 _ 7 72 Tryd.underlying42 hi hz0 hz1 hz2 rfl (Nat.zero_lt_succ 6) (.slice A' g'.length c') g'.length (encT g'.reverse) rfl HO.out A g'.length c (encT g') rfl HG1.out ?b2 ?b3 hB.size ?b5)
          case b2 => simp only [maxLen]; omega
          case b3 => omega
          case b5 =>
            intro v2 w2 hown2 hg2 hat2
            rw [← encT_append] at hown2
            have hB2 : Below wc.heap.size wc w2 := hB.grown hg2 hB.size (fun q hq => row_base HO.out q hq)
            obtain ⟨A2, c2, rfl⟩ := row_slice hown2
            have hlb : (g'.reverse ++ g').length = g'.length + g'.length := by simp
            have HLB := Lib.hid hlb
            have TB := Lib.hid (TReads.of_row (rest := []) (by rw [List.append_nil]; exact hown2))
            have FB := Lib.hid (FineT.app F1.out.rev F1.out (by rw [hlb]; omega))
            clear hown2 hg2 hat2 hlb
            go_wp2_with fail
            refine (gHolds_at _ (g'.reverse ++ g') HLB.out x A2 C c2 cx _ TB.out FB.out (HX.out.below hB2) HFX.out hl (Utf8Tabs_below HT.out hB2)).mono ?_
            rintro e w3 ⟨rfl, hb3⟩
            rw [holds_back n1]
            have hB3 := below_then hB2 hb3
            have HG3 := Lib.hid (Src.of_treads (G1.out.below hB3))
            clear hb3 TB FB HLB HO HG1 hB2 hB hB1
            go_wp2_with (at_builtin; refine wpList_app _ rfl (.tmp 59) (.tmp 60) _ rfl wc.heap.size _ i0 _ 7 72 Tryd.underlying42 hi hz0 hz1 hz2 rfl (Nat.zero_lt_succ 6) (.slice none 0 0) 0 [] rfl (row_nil _ _ _ _) A g'.length c (encT g') rfl HG3.out ?d2 ?d3 hB3.size ?d5)
            case d2 => simp only [maxLen]; omega
            case d3 => omega
            case d5 =>
              intro v4 w4 hown4 hg4 hat4
              have hB4 : Below wc.heap.size wc w4 := hB3.grown hg4 hB3.size (fun q hq => by simp [Value.ownBlock] at hq)
              obtain ⟨A4, c4, rfl⟩ := row_slice hown4
              have HO4 := Lib.hid hown4
              have HG4 := Lib.hid (Src.of_treads (G2.out.below hB4))
              clear hown4 hg4 hat4
              go_wp2_with (at_builtin; refine wpList_app _ rfl (.tmp 62) (.tmp 63) _ rfl wc.heap.size _ i0 _ 7 72 Tryd.underlying42 hi hz0 hz1 hz2 rfl (Nat.zero_lt_succ 6) (.slice A4 g'.length c4) g'.length (encT g') rfl HO4.out B h'.length d (encT h') rfl HG4.out ?f2 ?f3 hB4.size ?f5)
              case f2 => simp only [maxLen]; omega
              case f3 => omega
              case f5 =>
                intro v5 w5 hown5 hg5 hat5
                rw [← encT_append] at hown5
                have hB5 : Below wc.heap.size wc w5 := hB4.grown hg5 hB4.size (fun q hq => row_base HO4.out q hq)
                obtain ⟨A5, c5, rfl⟩ := row_slice hown5
                have hlb : (g' ++ h').length = g'.length + h'.length := by simp
                have HLB := Lib.hid hlb
                have TB := Lib.hid (TReads.of_row (rest := []) (by rw [List.append_nil]; exact hown5))
                have FB := Lib.hid (FineT.app F1.out F2.out (by rw [hlb]; omega))
                clear hown5 hg5 hat5 hlb HO4
                go_wp2_with fail
                refine (gHolds_at _ (g' ++ h') HLB.out x A5 C c5 cx _ TB.out FB.out (HX.out.below hB5) HFX.out hl (Utf8Tabs_below HT.out hB5)).mono ?_
                rintro e w6 ⟨rfl, hb6⟩
                have hB6 := below_then hB5 hb6
                clear hb6
                go_wp2_with fail
                refine (gHolds_any h' x B C d cx _ (G2.out.below hB6) F2.out (HX.out.below hB6) HFX.out hl (Utf8Tabs_below HT.out hB6)).mono ?_
                rintro e w7 ⟨rfl, hb7⟩
                have hB7 := below_then hB6 hb7
                clear hb7
                go_wp2_with fail
                refine (gHolds_any [] [] none none 0 0 _ (TReads.nil _ _) FineT.nil (Reads2.nil _ _) Fine2.nil (by simp) (Utf8Tabs_below HT.out hB7)).mono ?_
                rintro e w8 ⟨rfl, hb8⟩
                rw [holds_none]
                have hB8 := below_then hB7 hb8
                have HTK := Lib.hid (Utf8Tabs_below HT.out hB8)
                have Bad := Lib.hid (holds_both_bad (x := x) n1 n2)
                have Ok := Lib.hid (holds_both (x := x) n1 n2)
                clear hb8
                have s1 : ∀ a : Int, (a != a) = false := fun a => by simp
                by_cases k1 : (holdsE g' x).2 = 0
                · by_cases k2 : (holdsE h' x).2 = 0
                  · rw [Ok.out k1 k2, k1, k2]
                    clear Bad Ok k1 k2
                    generalize (holdsE g' x).1 = p
                    generalize (holdsE h' x).1 = q
                    cases p <;> cases q
                    all_goals
                      go_wp2_with fail
                      refine (known9_any _ HTK.out).mono ?_
                      rintro e w9 ⟨rfl, hb9⟩
                      go_wp2
                      go_ret
                      exact ⟨rfl, below_then hB8 hb9⟩
                  · have hb := Bad.out (.inr k2)
                    rw [k1]
                    have t1 : ((holdsE h' x).2 != 0) = true := by rw [bne_iff_ne]; exact k2
                    have t2 : ((holdsE (g' ++ h') x).2 != 0) = true := by rw [bne_iff_ne]; exact hb
                    clear Bad Ok k1 k2 hb
                    generalize (holdsE h' x).2 = K at *
                    generalize (holdsE (g' ++ h') x).2 = I at *
                    generalize (holdsE g' x).1 = p
                    cases p
                    all_goals
                      go_wp2_with fail
                      refine (known9_any _ HTK.out).mono ?_
                      rintro e w9 ⟨rfl, hb9⟩
                      go_wp2
                      go_ret
                      exact ⟨rfl, below_then hB8 hb9⟩
                · have hb := Bad.out (.inl k1)
                  have t1 : ((holdsE g' x).2 != 0) = true := by rw [bne_iff_ne]; exact k1
                  have t2 : ((holdsE (g' ++ h') x).2 != 0) = true := by rw [bne_iff_ne]; exact hb
                  clear Bad Ok k1 hb
                  generalize (holdsE g' x).2 = K at *
                  generalize (holdsE (g' ++ h') x).2 = I at *
                  generalize (holdsE g' x).1 = p
                  have s2 := s1 K
                  cases p
                  all_goals
                    go_wp2_with fail
                    refine (known9_any _ HTK.out).mono ?_
                    rintro e w9 ⟨rfl, hb9⟩
                    go_wp2
                    go_ret
                    exact ⟨rfl, below_then hB8 hb9⟩
theorem guardMore_row (A : Option Addr) (c : Nat) (g : List TestD) (B : Option Addr) (d : Nat) (h : List TestD) (C : Option Addr) (cx : Nat) (x : List (List CellD)) (w : World) (hT : Tabs w) (hc : g.length ≤ c) (hr : TReads w A g) (hf : FineT g) (hd : h.length ≤ d) (hr2 : TReads w B h) (hf2 : FineT h) (hcx : x.length ≤ cx) (hx : Reads2 w C x) (hfx : Fine2 x) (hy : x.length * 24 ≤ 140737488351232) :
    Calls Tryd.prog 6 #[.slice A g.length c, .slice B h.length d, .slice C x.length cx] w fun e w' => e = .returned (.bool true) ∧ Below w.heap.size w w' :=
  guardMore_any g h x A B C c d cx w hr hf hr2 hf2 hx hfx (by omega) hc hd hT
end Go.Proofs.YtefpolgflimlgaaDoor.Tm
