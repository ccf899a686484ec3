/- ArenaBack: what was put is told. -/
import Derived.Test.YtejcbpbhhofhlaaDoorRfH
import Derived.Test.YtejcbpbhhofhlaaDoorArA
namespace Go.Proofs.YtejcbpbhhofhlaaDoor.Tm
open Go.RowKit
set_option linter.unusedVariables false
set_option linter.unusedSimpArgs false

/-- What stands so far. -/
structure BackNow (L : List ObjA) (xs : List Int) (ks : List (List CellD)) : Prop where
  cells : ∀ o ∈ L, WfC o.cell
  len : xs.length = ks.length
  each : ∀ i (h : i < xs.length) (h' : i < ks.length), FindOk L xs[i] ∧ Tells L [xs[i]] ks[i] ∧ ks[i].length ≤ 1024
theorem BackNow.ext {L L' : List ObjA} {xs : List Int} {ks : List (List CellD)} (h : BackNow L xs ks) (e : Ext L L') (hc : ∀ o ∈ L', WfC o.cell) : BackNow L' xs ks :=
  ⟨hc, h.len, fun i h1 h2 => ⟨(h.each i h1 h2).1.ext e, (h.each i h1 h2).2.1.ext e, (h.each i h1 h2).2.2⟩⟩
theorem BackNow.snoc {L : List ObjA} {xs : List Int} {ks : List (List CellD)} (h : BackNow L xs ks) {x : Int} {t : List CellD} (hx : FindOk L x) (ht : Tells L [x] t) (hl : t.length ≤ 1024) : BackNow L (xs ++ [x]) (ks ++ [t]) := by
  refine ⟨h.cells, by simp [h.len], fun i h1 h2 => ?_⟩
  by_cases hi : i < xs.length
  · rw [List.getElem_append_left hi, List.getElem_append_left (by rw [← h.len]; exact hi)]
    exact h.each i hi _
  · have hi' : i = xs.length := by simp at h1; omega
    subst hi'
    have e1 : (xs ++ [x])[xs.length] = x := by simp
    have e2 : (ks ++ [t])[xs.length] = t := by
      rw [List.getElem_append_right (by rw [h.len]; exact Nat.le_refl _)]
      simp [h.len]
    rw [e1, e2]
    exact ⟨hx, ht, hl⟩
theorem ref_cells {L : List ObjA} (hw : WfA L) (hc : ∀ o ∈ L, WfC o.cell) : ∀ o ∈ refOf L, WfC o.cell ∧ cellE o.cell = 0 := by
  intro o ho
  unfold refOf at ho
  obtain ⟨o', ho', rfl⟩ := List.mem_map.1 ho
  obtain ⟨i, hi, rfl⟩ := List.mem_iff_getElem.1 ho'
  exact ⟨hc _ ho', (hw i hi).good⟩
theorem rf_new {w : World} {w1 : World} (hB : Below w.heap.size w w1) (h3 : 3 ≤ w.heap.size) : RfAt (w1.alloc (.cells #[.int .i64 262144, .slice none 0 0] 29)) (fun k => k = w1.heap.size) w1.heap.size 262144 [] := by
  have hs := hB.size
  refine ⟨.slice none 0 0, [], heap_new w1 _, row_nil _ _ _ _, rfl, fun i h => absurd h (Nat.not_lt_zero i), rfl, fun k hk => by simp [Value.ownBlock] at hk, fun k hk => ?_⟩
  rw [World.size_alloc, hk]
  omega
theorem wordsA_at : ∀ (l : List ObjA) (p k : Nat) (h : k < l.length), (wordsA p l)[k]? = some (wordAt l[k].cell (p + usedA (l.take k)))
  | [], _, k, h => absurd h (Nat.not_lt_zero k)
  | o :: l, p, k, h => by
    rw [wordsA]
    cases k with
    | zero => simp [usedA]
    | succ k =>
      have := wordsA_at l (p + costC o.cell) k (by simpa using h)
      simp only [List.getElem?_cons_succ, List.getElem_cons_succ, List.take_succ_cons, usedA_cons]
      rw [this, Nat.add_assoc]
theorem take_wf {l : List ObjA} (hw : WfA l) (k : Nat) : WfA (l.take k) := fun i hi => by
  have hi' : i < l.length := by simp at hi; omega
  have := hw i hi'
  have e1 : (l.take k)[i] = l[i] := List.getElem_take
  have e2 : (l.take k).take i = l.take i := by rw [List.take_take]; congr 1; simp at hi; omega
  rw [e1, e2]
  exact this
theorem used_take {l : List ObjA} (k : Nat) (h : k < l.length) : usedA (l.take (k + 1)) = usedA (l.take k) + costC l[k].cell := by
  rw [List.take_succ_eq_append_getElem h, usedA_snoc]
theorem used_take_le (l : List ObjA) (k : Nat) : usedA (l.take k) ≤ usedA l := by
  have h : usedA (l.take k ++ l.drop k) = usedA (l.take k) + usedA (l.drop k) := by simp only [usedA, List.map_append, List.sum_append]
  rw [List.take_append_drop] at h
  omega
theorem word_seen {l : List ObjA} (hw : WfA l) (hu : usedA l ≤ 262144) {k : Nat} (h : k < l.length) : seenA l (wordAt l[k].cell (usedA (l.take k))) = some (l[k].cell, l[k].parts) ∧ 0 ≤ wordAt l[k].cell (usedA (l.take k)) ∧ wordAt l[k].cell (usedA (l.take k)) < 18446744073709551616 := by
  have hk := used_take k h
  have hle := used_take_le l (k + 1)
  have hc := cost_pos (hw k h).good (hw k h).big
  have hf := findA_new l[k] (take_wf hw k).cost (by omega)
  have e : Ext (l.take k ++ [l[k]]) l := by
    rw [← List.take_succ_eq_append_getElem h]
    exact ext_take l (k + 1)
  refine ⟨e.seen ?_, ?_, ?_⟩
  · unfold seenA
    rw [hf]
    simp only
    rw [if_neg (by omega), Int.toNat_natCast, List.getElem?_append_right (Nat.le_refl _)]
    simp
  · unfold wordAt; split <;> omega
  · unfold wordAt; split <;> omega
set_option maxRecDepth 10000 in
set_option maxHeartbeats 8000000 in
theorem back_any (w : World) (ls : List (List CellD)) (A : Option Addr) (cap : Nat) (hT : TabsA w) (hr : Reads2 w A ls) (hwf : ∀ t ∈ ls, ∀ c ∈ t, WfC c) (hf : ∀ t ∈ ls, t.length ≤ 1000000000000000) (hl : ls.length ≤ 1000000000000000) :
    Calls Tryd.prog 3 #[.slice A ls.length cap] w fun e w' => e = .returned (.bool true) ∧ Below w.heap.size w w' := by
  have h3 := tabs_size hT
  have hnew := new_any 262144 w (by omega) h3
  have HT := Lib.hid hT
  have HR := Lib.hid hr
  have HW := Lib.hid hwf
  have HF := Lib.hid hf
  clear hT hr hwf hf
  go_enter Tryd.func3, Tryd.ntmps3
  go_wp2_with fail
  refine hnew.mono ?_
  rintro e w1 ⟨ba, O1, rfl, hA1, hO1, hB1⟩
  have hs1 := hB1.size
  obtain ⟨w2, hw2⟩ : ∃ W, w1.alloc (.cells #[.int .i64 262144, .slice none 0 0] 29) = W := ⟨_, rfl⟩
  have hB12 : Below w1.heap.size w1 w2 := hw2 ▸ below_one w1 _
  have hrep : BackRep w w2 O1 (fun k => k = w1.heap.size) ba w1.heap.size [] (refOf []) (.slice none 0 0) [] (.slice none 0 0) [] [] :=
    ⟨hA1.below hB12, hw2 ▸ rf_new hB1 h3, fun k hk e => by have := (hA1.lim k hk).2; omega, hO1, fun k e => by omega, below_then hB1 hB12, row_nil _ _ _ _, row_nil _ _ _ _, Each.nil, fun k hk => by simp [Value.ownBlock] at hk, fun k hk => by simp [Value.ownBlock] at hk⟩
  have HREP := Lib.hid hrep
  have HW2 := Lib.hid hw2
  have hnow : Hid (BackNow [] [] []) := Lib.hid ⟨fun o ho => (by cases ho), rfl, fun i h => absurd h (Nat.not_lt_zero i)⟩
  obtain ⟨ra, hra⟩ : ∃ r, w1.heap.size = r := ⟨_, rfl⟩
  rw [hra] at HREP
  have HRA := Lib.hid hra
  clear hnew hA1 hO1 hB1 hB12 hrep hw2 hs1 hra
  go_wp2_with fail
  rw [HW2.out, HRA.out]
  clear HW2 HRA
  go_loopw [4, 5, 6, 8] (fun vW vK u i wr => ∃ (j : Nat) (O OR : Nat → Prop) (L : List ObjA) (xs : List Int) (ks : List (List CellD)) (vs : List Value), j ≤ ls.length ∧ j ≤ 50 ∧ xs.length ≤ j ∧ u = .int .i64 (usedA L : Int) ∧ i = .int .i64 (j : Int) ∧ Hid (BackRep w wr O OR ba ra L (refOf L) vW xs vK ks vs) ∧ Hid (BackNow L xs ks)) (fun vW vK u i wr => ls.length - (intOf i).toNat)
  case atStart => exact ⟨0, _, _, [], [], [], [], Nat.zero_le _, by omega, Nat.zero_le _, rfl, rfl, HREP, hnow⟩
  case round =>
    clear HREP hnow
    obtain ⟨j, O, OR, L, xs, ks, vs, hj, hj50, hxj, rfl, rfl, hP, hN⟩ := hrel
    have hlims := hP.out.ar.lims
    by_cases hlt : j < ls.length ∧ j < 50
    · obtain ⟨hlt, hlt50⟩ := hlt
      have hb50 : decide ((j : Int) < 50) = true := decide_eq_true (by omega)
      have hbl : decide ((j : Int) < (ls.length : Int)) = true := decide_eq_true (by omega)
      obtain ⟨b, o, rfl, Aj, cj, hcell, hcj, hRj⟩ := HR.out j hlt
      have htm := List.getElem_mem hlt
      have hcw := HW.out _ htm
      have htl := HF.out _ htm
      have hwj : ∀ i (h : i < ls[j].length), WfC ls[j][i] := fun i hi => hcw _ (List.getElem_mem hi)
      have hbp := both_put (room := 262144) (l := L) (t := ls[j]) hP.out.ar.wf (by omega) (by omega)
      have hAlt : ls[j].length ≠ 0 → ∀ g q, Aj = some ⟨g, q, none⟩ → g < w.heap.size := fun h0 g q e => by
        obtain ⟨g', q', e', hc⟩ := hRj 0 (by omega)
        rw [e] at e'
        cases e'
        exact cell_lt hc.1
      obtain ⟨t, ht⟩ : ∃ t, ls[j] = t := ⟨_, rfl⟩
      rw [ht] at hcell hcj hRj htl hwj hbp hAlt hcw
      have hput := put_any wr O ba 262144 L t Aj cj hP.out.ar (HT.out.below hP.out.base) (hRj.below hP.out.base) (fun h0 g q e ho => by have := hAlt h0 g q e; have := hP.out.o1 g ho; omega) hwj htl
      have hcr := cell_below hP.out.base hcell
      have HCELL := Lib.hid hcell
      have HCJ := Lib.hid hcj
      have HRJ := Lib.hid hRj
      have HWJ := Lib.hid hwj
      have HBP := Lib.hid hbp
      have HAL := Lib.hid hAlt
      have HCW := Lib.hid hcw
      have HP := hP
      have HLW := Lib.hid hP.out.ar.wf
      obtain ⟨E, hE⟩ : ∃ E, putE 262144 L t = E := ⟨_, rfl⟩
      obtain ⟨X, hX⟩ : ∃ X, putX 262144 L t = X := ⟨_, rfl⟩
      obtain ⟨L1, hL1⟩ : ∃ L1, putL 262144 L t = L1 := ⟨_, rfl⟩
      rw [hE, hX, hL1] at hput
      have HEX := Lib.hid (⟨hE, hX, hL1⟩ : putE 262144 L t = E ∧ putX 262144 L t = X ∧ putL 262144 L t = L1)
      clear hcell hcj hRj hwj hbp hAlt hcw ht htm hE hX hL1
      go_wp2_with fail
      refine hput.mono ?_
      rintro e w3 ⟨rfl, hM⟩
      obtain ⟨O3, hP3⟩ := HP.out.put hM
      have HP3 := Lib.hid hP3
      have hcr3 := cell_below hP3.base HCELL.out
      have hrput := rput_any w3 OR ra 262144 (refOf L) t Aj cj hP3.rf (ref_cells HLW.out hN.out.cells) (by rw [refOf_len]; have := HLW.out.len; omega) (by unfold usedR; rw [usedR_ref]; omega) (by omega) (HRJ.out.below hP3.base) HCJ.out (fun h0 g q e ho => by have := HAL.out h0 g q e; have := hP3.o2 g ho; omega) HWJ.out htl
      rw [HBP.out.e, HEX.out.1, HBP.out.r, HEX.out.2.2] at hrput
      obtain ⟨v, hv⟩ : ∃ v, rputV 262144 (refOf L) t = v := ⟨_, rfl⟩
      rw [hv] at hrput
      unfold ValR.agg at hrput
      clear hM hput hP3 hcr hv
      go_wp2_with fail
      refine hrput.mono ?_
      rintro e w4 ⟨rfl, hM⟩
      obtain ⟨OR4, hP4⟩ := HP3.out.rput hM
      have hB5 := below_one w4 (.cells #[.int .i64 v.obj, .int .i64 v.cell.kind, .int .i64 v.cell.n, .string v.cell.text] 39)
      have hEE : (E != E) = false := by simp
      obtain ⟨w5, hw5⟩ : ∃ W, w4.alloc (.cells #[.int .i64 v.obj, .int .i64 v.cell.kind, .int .i64 v.cell.n, .string v.cell.text] 39) = W := ⟨_, rfl⟩
      rw [hw5] at hB5
      have HP5 := Lib.hid (hP4.below hB5)
      have HW5 := Lib.hid hw5
      clear hM hrput hP4 hB5 hw5 hcr3
      by_cases hE0 : E = 0
      · subst hE0
        obtain ⟨k1, k2, k3, k4, k5⟩ := HBP.out.ok HEX.out.1
        rw [HEX.out.2.2] at k1 k2 k3
        rw [HEX.out.2.1] at k1 k2
        have hext := HBP.out.ext
        have hcs := HBP.out.cells hN.out.cells HCW.out
        rw [HEX.out.2.2] at hext hcs
        have HN2 := Lib.hid ((hN.out.ext hext hcs).snoc k1 k2 k4)
        have HCE := Lib.hid k5
        have HK3 := Lib.hid k3
        have hks := hN.out.len
        have hlims5 := HP5.out.ar.lims
        have htot := total_le k5
        obtain ⟨AW, cW, hvW⟩ := row_slice HP5.out.rw_
        obtain ⟨AK, cK, hvK⟩ := row_slice HP5.out.rk
        subst hvW
        subst hvK
        obtain ⟨nk, hnk⟩ : ∃ n, ks.length = n := ⟨_, rfl⟩
        obtain ⟨nw, hnw⟩ : ∃ n, xs.length = n := ⟨_, rfl⟩
        have hrw := HP5.out.rw_
        have hrk := HP5.out.rk
        rw [hnw] at hrw hxj
        have HRW := Lib.hid hrw
        have HNK := Lib.hid hnk
        have HNW := Lib.hid hnw
        obtain ⟨j0, ji, jz0, jz1, jz2⟩ := info_parts word_info
        obtain ⟨i0, hi, hz0, hz1, hz2⟩ := info_parts sl_info
        have hsb := HP5.out.base.size
        have hA1 : nw + 1 ≤ maxLen := by unfold maxLen; omega
        have hA2 : (nw + 1) * 8 ≤ 140737488355328 := by omega
        have hA3 : w.heap.size ≤ (w5.alloc (.cells #[.int .u64 X] 31)).heap.size := by rw [World.size_alloc]; omega
        have hA4 : nk + 1 ≤ maxLen := by unfold maxLen; omega
        have hA5 : (nk + 1) * 24 ≤ 140737488355328 := by omega
        have hA6 : usedA L ≤ 262144 := by omega
        rw [hnk, hnw]
        clear k1 k2 k3 k5 hext hcs hrw hrk hnk hnw hks
        go_upto_region 16 with (fail)
        rw [HW5.out]
        go_wp2_with (first
          | (at_builtin
             refine wpList_append_lies _ rfl _ _ _ rfl w.heap.size 31 j0 _ 1 8 Tryd.underlying25 ji jz0 jz1 jz2 rfl (by omega) (.slice AW nw cW) nw (encW xs) rfl (HRW.out.alloc _) ⟨w5.heap.size, 0, none⟩ 1 1 [.int .u64 X] rfl rfl (World.news_of_block (cs := #[.int .u64 X]) (t := 31) (fr := (0, 0)) (heap_alloc_new w5 _)) (by simp [Value.oneCell']) (by omega) hA1 hA2 hA3 (w5.heap.size + 1) (World.size_alloc _ _) ?_
             intro g2 cap2 w6 hown6 hgrow6 hat6 hlt6
             have HP6 : Hid (BackRep w w6 O3 OR4 ba ra L1 (refOf L1) (.slice (some ⟨g2, 0, none⟩) (nw + 1) cap2) (xs ++ [X]) (.slice AK ks.length cK) ks vs) := Lib.hid (by
               have e := HNW.out
               subst e
               exact HP5.out.addW (below_one w5 _) hgrow6 hown6 (hat6.imp id (fun e => by rw [World.size_alloc]; omega)))
             have hcr6 := cell_below HP6.out.base HCELL.out
             have hsb6 := HP6.out.base.size
             have hA7 : w.heap.size ≤ (w6.alloc (.cells #[.slice Aj t.length cj] 35)).heap.size := by rw [World.size_alloc]; omega
             have HRK6 : Hid (w6.ownsRow w.heap.size 35 1 (.slice AK nk cK) nk vs) := Lib.hid (by
               have e := HNK.out
               subst e
               exact HP6.out.rk))
          | (at_builtin
             refine wpList_append_lies _ rfl _ _ _ rfl w.heap.size 35 i0 _ 1 24 Tryd.underlying22 hi hz0 hz1 hz2 rfl (by omega) (.slice AK nk cK) nk vs rfl (HRK6.out.alloc _) ⟨w6.heap.size, 0, none⟩ 1 1 [.slice Aj t.length cj] rfl rfl (World.news_of_block (cs := #[.slice Aj t.length cj]) (t := 35) (fr := (0, 0)) (heap_alloc_new w6 _)) (slice_one _ _ _) (by omega) hA4 hA5 hA7 (w6.heap.size + 1) (World.size_alloc _ _) ?_
             intro g3 cap3 w7 hown7 hgrow7 hat7 hlt7
             have HP7 : Hid (BackRep w w7 O3 OR4 ba ra L1 (refOf L1) (.slice (some ⟨g2, 0, none⟩) (nw + 1) cap2) (xs ++ [X]) (.slice (some ⟨g3, 0, none⟩) (nk + 1) cap3) (ks ++ [t]) (vs ++ [.slice Aj t.length cj])) := Lib.hid (by
               have e := HNK.out
               subst e
               exact HP6.out.addK (below_one w6 _) hgrow7 hown7 (hat7.imp id (fun e => by rw [World.size_alloc]; omega)) ⟨HCJ.out, HRJ.out⟩)
             have hcr7 := cell_below HP7.out.base HCELL.out)
          | fail)
        refine (rtotal_any t Aj cj _ (HRJ.out.below HP7.out.base) HWJ.out HCE.out htl (by omega)).mono ?_
        rintro e w8 ⟨rfl, hb8⟩
        have HP8 := Lib.hid (HP7.out.below hb8)
        obtain ⟨T, hT⟩ : ∃ T, totalA t = T := ⟨_, rfl⟩
        rw [hT] at HK3 htot ⊢
        clear hT hb8 hcr6 hcr7 hgrow6 hgrow7 hown6 hown7 hat6 hat7
        obtain ⟨U, hU⟩ : ∃ U, usedA L = U := ⟨_, rfl⟩
        rw [hU] at HK3 hA6 ⊢
        clear hU
        go_wp2
        go_roundw
        case rel =>
          refine ⟨j + 1, O3, OR4, L1, xs ++ [X], ks ++ [t], vs ++ [.slice Aj t.length cj], by omega, by omega, ?_, by rw [HK3.out]; go_num, by go_num, ?_, HN2⟩
          · have := HNW.out; rw [List.length_append, List.length_singleton]; omega
          · exact HP8
        case measure => simp [intOf]; omega
      · have hEb : (E != 0) = true := by simpa using hE0
        have hL1 : L1 = L := by rw [← HEX.out.2.2]; exact HBP.out.bad (by rw [HEX.out.1]; exact hE0)
        subst hL1
        clear hE0
        go_wp2_with fail
        rw [HW5.out]
        go_wp2
        go_roundw
        case rel => exact ⟨j + 1, O3, OR4, L1, xs, ks, vs, by omega, by omega, by omega, rfl, by go_num, HP5, hN⟩
        case measure => simp [intOf]; omega
    · have hcase : (¬ j < ls.length ∧ decide ((j : Int) < (ls.length : Int)) = false) ∨ (j < ls.length ∧ decide ((j : Int) < (ls.length : Int)) = true ∧ ¬ j < 50 ∧ decide ((j : Int) < 50) = false) := by
        by_cases h : j < ls.length
        · exact .inr ⟨h, decide_eq_true (by omega), by omega, decide_eq_false (by omega)⟩
        · exact .inl ⟨h, decide_eq_false (by omega)⟩
      obtain ⟨AW, cW, hvW⟩ := row_slice hP.out.rw_
      obtain ⟨AK, cK, hvK⟩ := row_slice hP.out.rk
      subst hvW
      subst hvK
      obtain ⟨wo, hwo⟩ : ∃ W, W = wr := ⟨_, rfl⟩
      subst hwo
      have HWR := Lib.hid (WReads.of_row hP.out.rw_)
      have hln := hN.out.len
      have HLN := Lib.hid hln
      have hwfa := Lib.hid hP.out.ar.wf
      have hll := hP.out.ar.wf.len
      clear hlt hln
      rcases hcase with ⟨hp1, hb1⟩ | ⟨hp1, hb1, hp2, hb2⟩
      all_goals
        go_wp2_with fail
        go_loopw [13] (fun i wr2 => ∃ k : Nat, k ≤ xs.length ∧ i = .int .i64 (k : Int) ∧ Hid (Below wo.heap.size wo wr2)) (fun i wr2 => xs.length - (intOf i).toNat)
        case atStart => exact ⟨0, Nat.zero_le _, rfl, Lib.hid (Below.refl _ _)⟩
        case round =>
          obtain ⟨k, hk, rfl, hB2⟩ := hrel
          by_cases hlt : k < xs.length
          · have hlk : k < ks.length := by rw [← HLN.out]; exact hlt
            obtain ⟨f1, f2, f3⟩ := hN.out.each k hlt hlk
            obtain ⟨gW, oW, rfl, hcW⟩ := HWR.out k hlt
            have hcW' := cell_below hB2.out hcW
            obtain ⟨Ak, ck, ek, hck, hRk⟩ := hP.out.ek.2 k hlk
            obtain ⟨gK, rfl, _, _⟩ := row_form hP.out.rk (by omega)
            have hcK := cell_below hB2.out (row_cell1 hP.out.rk ek)
            have hg := get_fine wr O ba 262144 L xs[k] ks[k] f1.2.1 f1.2.2 (hP.out.ar.below hB2.out) f2 f3
            have hRk' := Lib.hid ((hRk.below hP.out.base).below hB2.out)
            have hke : (k : Int) < (ks.length : Int) := by omega
            obtain ⟨t, ht⟩ : ∃ t, ks[k] = t := ⟨_, rfl⟩
            obtain ⟨x, hx⟩ : ∃ x, xs[k] = x := ⟨_, rfl⟩
            rw [ht, hx] at hg
            rw [hx] at hcW'
            rw [ht] at hcK hRk' f3
            clear f1 f2 hcW ek hRk ht hx hck
            go_wp2_with fail
            refine hg.mono ?_
            rintro e w3 ⟨⟨A3, c3, rfl, hrow3⟩, hb3⟩
            have hcK3 := cell_below hb3 hcK
            have hsm := rsame_any A3 Ak c3 ck t t w3 (Reads.of_row hrow3) (hRk'.out.below hb3) (by omega) (by omega)
            rw [show decide (t = t) = true by simp] at hsm
            clear hcK hg
            go_wp2_with fail
            refine hsm.mono ?_
            rintro e w4 ⟨rfl, hb4⟩
            have HB4 := Lib.hid (below_then (below_then hB2.out hb3) hb4)
            go_wp2
            go_roundw
            case rel => exact ⟨k + 1, by omega, by go_num, HB4⟩
            case measure => simp [intOf]; omega
          · obtain rfl : k = xs.length := by omega
            have hall := all_any wr O ba 262144 L (hP.out.ar.below hB2.out)
            rw [wordsA_len] at hall
            go_wp2_with fail
            refine hall.mono ?_
            rintro e w3 ⟨A3, c3, rfl, hrow3, hb3⟩
            have HB3 := Lib.hid (below_then hB2.out hb3)
            have hrow3' := hrow3
            rw [← wordsA_len 0 L] at hrow3'
            have HW3 := Lib.hid (WReads.of_row hrow3')
            clear hb3 hall hrow3 hrow3' hB2 hlt hk
            go_wp2_with fail
            go_loopw [16, 18] (fun s i wr3 => ∃ k : Nat, k ≤ L.length ∧ s = .int .i64 (usedA (L.take k) : Int) ∧ i = .int .i64 (k : Int) ∧ Hid (Below w3.heap.size w3 wr3)) (fun s i wr3 => L.length - (intOf i).toNat)
            case atStart => exact ⟨0, Nat.zero_le _, rfl, rfl, Lib.hid (Below.refl _ _)⟩
            case round =>
              obtain ⟨k, hk, rfl, rfl, hB4⟩ := hrel
              have hB5 := Lib.hid (below_then HB3.out hB4.out)
              by_cases hlt : k < L.length
              · have hwk : k < (wordsA 0 L).length := by rw [wordsA_len]; exact hlt
                obtain ⟨gW, oW, rfl, hcW⟩ := HW3.out k hwk
                have hcW' := cell_below hB4.out hcW
                have hwa := wordsA_at L 0 k hlt
                rw [List.getElem?_eq_getElem hwk, Nat.zero_add] at hwa
                rw [Option.some.inj hwa] at hcW'
                obtain ⟨f1, f2, f3⟩ := word_seen hwfa.out hlims.2 hlt
                have hgood := (hwfa.out k hlt).good
                have hpos := cost_pos hgood (hwfa.out k hlt).big
                have hut := used_take k hlt
                have hul := used_take_le L (k + 1)
                rw [hut] at hul
                have HUT := Lib.hid hut
                have hac := acost_any wr O ba 262144 L _ _ _ f2 f3 (hP.out.ar.below hB5.out) ((HT.out.below hP.out.base).below hB5.out) f1 (hN.out.cells _ (List.getElem_mem hlt)) hgood
                obtain ⟨x, hx⟩ : ∃ x, wordAt L[k].cell (usedA (L.take k)) = x := ⟨_, rfl⟩
                obtain ⟨c, hc⟩ : ∃ c, costC L[k].cell = c := ⟨_, rfl⟩
                obtain ⟨u, hu⟩ : ∃ u, usedA (L.take k) = u := ⟨_, rfl⟩
                rw [hx] at hcW' hac
                rw [hc] at hac hpos hul HUT
                rw [hu] at hul HUT ⊢
                have hc1 : decide ((c : Int) < 1) = false := decide_eq_false (by omega)
                have hc2 : ¬ c < 1 := by omega
                clear hcW hwa f1 f2 f3 hgood hut hx hc hu
                go_wp2_with fail
                refine hac.mono ?_
                rintro e w5 ⟨rfl, hb5⟩
                have HB6 := Lib.hid (below_then hB4.out hb5)
                go_wp2
                go_roundw
                case rel => exact ⟨k + 1, by omega, by rw [HUT.out]; go_num, by go_num, HB6⟩
                case measure => simp [intOf]; omega
              · obtain rfl : k = L.length := by omega
                rw [List.take_length]
                have hus := used_any wr O ba 262144 L (hP.out.ar.below hB5.out)
                have hBw := Lib.hid (below_then hP.out.base hB5.out)
                obtain ⟨u, hu⟩ : ∃ u, usedA L = u := ⟨_, rfl⟩
                rw [hu] at hus ⊢
                have huu : ((u : Int) == (u : Int)) = true := by simp
                clear hu hlt hk
                go_wp2_with fail
                refine hus.mono ?_
                rintro e w6 ⟨rfl, hb6⟩
                have hB7 := below_then hBw.out hb6
                go_wp2_with fail
                refine (known_any w6 (HT.out.below hB7) (Nat.le_trans h3 hB7.size)).mono ?_
                rintro e w7 ⟨rfl, hb7⟩
                go_wp2
                go_ret
                exact ⟨rfl, below_then hB7 hb7⟩
theorem back_row (A : Option Addr) (cap : Nat) (ls : List (List CellD)) (w : World) (hT : TabsA w) (hcap : ls.length ≤ cap) (hr : Reads2 w A ls) (hf : Fine2 ls ∧ ∀ t ∈ ls, ∀ c ∈ t, WfC c) (hy : ls.length * 24 ≤ 140737488351232) :
    Calls Tryd.prog 3 #[.slice A ls.length cap] w fun e w' => e = .returned (.bool true) ∧ Below w.heap.size w w' :=
  back_any w ls A cap hT hr hf.2 (fun t ht => by
    obtain ⟨j, hj, rfl⟩ := List.mem_iff_getElem.1 ht
    exact (hf.1 j hj).lim) (by omega)
end Go.Proofs.YtejcbpbhhofhlaaDoor.Tm
