/- The reference's Fits. -/
import Derived.Test.YtefpolgflimlgaaDoorSameAll
import Derived.Test.YtefpolgflimlgaaDoorMatch
namespace Go.Proofs.YtefpolgflimlgaaDoor.Tm
open Go.RowKit
set_option linter.unusedVariables false
set_option linter.unusedSimpArgs false

theorem rsame_at (A B : Option Addr) (c1 c2 : Nat) (xs : List CellD) (n : Nat) (hn : xs.length = n) (ys : List CellD) (w : World) (hx : Reads w A xs) (hy : Reads w B ys) (hm : xs.length ≤ 1000000000000000) (hm2 : ys.length ≤ 1000000000000000) :
    Calls Tryd.prog 26 #[.slice A n c1, .slice B ys.length c2] w fun e w' => e = .returned (.bool (decide (xs = ys))) ∧ Below w.heap.size w w' := by
  subst hn
  exact rsame_any A B c1 c2 xs ys w hx hy hm hm2
def FitPost (w : World) (r : Option (List (List CellD))) (e : Ending) (w' : World) : Prop := ∃ v, e = .returned (.tuple #[v, .bool r.isSome]) ∧ RegsAt w' w.heap.size v (r.getD []) ∧ Below w.heap.size w w'
theorem FitPost.no {w w' : World} {r : Option (List (List CellD))} (h : r = none) (hB : Below w.heap.size w w') : FitPost w r (.returned (.tuple #[.slice none 0 0, .bool false])) w' := by
  subst h
  exact ⟨_, rfl, .inl ⟨rfl, rfl⟩, hB⟩
theorem FitPost.yes {w w' : World} {r : Option (List (List CellD))} {R : List (List CellD)} {og : Nat} {vs : Array Value} (h : r = some R) (hR : R.length = 16) (ho : Outs w' w.heap.size og vs R) (hB : Below w.heap.size w w') : FitPost w r (.returned (.tuple #[.slice (some ⟨og, 0, none⟩) 16 16, .bool true])) w' := by
  subst h
  exact ⟨_, rfl, .inr ⟨og, vs, rfl, hR, ho⟩, hB⟩
set_option maxRecDepth 100000 in
set_option maxHeartbeats 8000000 in
theorem rfits_any (p t : List CellD) (x : List (List CellD)) (A B C : Option Addr) (cp ct cx : Nat) (w : World) (hp : Reads w A p) (hfp : Fine p) (ht : Reads w B t) (hft : Fine t) (hx : Reads2 w C x) (hfx : Fine2 x)
    (hct : t.length ≤ ct) (hlx : x.length ≤ 1000000000000000) (ep : (prightE p).1 = 0) (et : (rightE t).1 = 0) :
    Calls Tryd.prog 126 #[.slice A p.length cp, .slice B t.length ct, .slice C x.length cx] w (FitPost w (fitsL p t x (regs16 x))) := by
  obtain ⟨i0, hi, hz0, hz1, hz2⟩ := info_parts cell_info
  have HP := Lib.hid hp
  have HFP := Lib.hid hfp
  have HT := Lib.hid ht
  have HFT := Lib.hid hft
  have HX := Lib.hid hx
  have HFX := Lib.hid hfx
  have hlp := hfp.lim
  have hlt := hft.lim
  have EP := Lib.hid ep
  have ET := Lib.hid et
  have G0 := Lib.hid (show ∃ o : Int, PGood (p.drop 0) o ∧ Wf (t.drop 0) o from ⟨1, (prightE_ok ep).1, (rightE_ok et).1.wf⟩)
  have htl := (rightE_ok et).2.2
  clear hp hfp ht hft hx hfx ep et
  go_enter Tryd.func126, Tryd.ntmps126
  go_wp2_with fail
  refine (rregs_any x C cx _ HX.out HFX.out hlx).mono ?_
  rintro e w1 ⟨og, vs, rfl, hO, hB1⟩
  have HO := Lib.hid hO
  have hlow := hO.low
  clear hO
  go_wp2_with fail
  go_loopw [9, 19] (fun a n wr => ∃ (i j : Nat) (R : List (List CellD)), i ≤ p.length ∧ n = .int .i64 i ∧ a = .int .i64 j ∧ j ≤ t.length ∧ R.length = 16 ∧ Hid (∃ vs, Outs wr w.heap.size og vs R) ∧ Hid (Below w.heap.size w wr) ∧ Hid (fitsL p t x (regs16 x) = fitsL (p.drop i) (t.drop j) x R) ∧ Hid (∃ o : Int, PGood (p.drop i) o ∧ Wf (t.drop j) o)) (fun a n wr => p.length - (intOf n).toNat)
  case atStart => exact ⟨0, 0, _, Nat.zero_le _, rfl, rfl, Nat.zero_le _, regs16_len x, ⟨vs, HO.out⟩, hB1, rfl, G0⟩
  case round =>
    obtain ⟨i, j, R, hi', rfl, rfl, hj, hRl, hMr, hBr, hFr, hGr⟩ := hrel
    clear G0
    by_cases hip : i < p.length
    · obtain ⟨b, o, hA, hpc⟩ := HP.out i hip
      subst hA
      obtain ⟨q0, q1, q2⟩ := hpc.below hBr.out
      have hGo := hGr.out
      have hFo := hFr.out
      rw [List.drop_eq_getElem_cons hip] at hGo hFo
      obtain ⟨oo, ⟨hpe, hoo, hpg⟩, hwf⟩ := hGo
      have hjt : j < t.length := by
        have h := hwf.ne hoo
        rcases Nat.lt_or_ge j t.length with h1 | h1
        · exact h1
        · exact absurd (List.drop_eq_nil_of_le h1) h
      obtain ⟨b2, o2, hBt, htc⟩ := HT.out j hjt
      subst hBt
      have hi1 : (i : Int) < (p.length : Int) := by omega
      have hi0 : (0 : Int) ≤ (i : Int) := Int.natCast_nonneg _
      have hj1 : (j : Int) < (t.length : Int) := by omega
      have hj0 : (0 : Int) ≤ (j : Int) := Int.natCast_nonneg _
      have HPE := Lib.hid hpe
      have HPG := Lib.hid hpg
      have HWF := Lib.hid hwf
      have HFo := Lib.hid hFo
      clear hGr hFr hFo hpe hpg hwf hpc
      generalize p[i] = y at *
      obtain ⟨vs2, hO2⟩ := hMr.out
      have hog := hO2.lt
      have HBa := Lib.hid (below_alloc' hBr.out (.cells #[.int .i64 y.kind, .int .i64 y.n, .string y.text] 95))
      have HO2 := Lib.hid (hO2.below (below_one wr (.cells #[.int .i64 y.kind, .int .i64 y.n, .string y.text] 95)))
      have htc1 := htc.below HBa.out
      clear hMr hO2
      go_wp2_with fail
      refine (free_any y.kind _).mono ?_
      rintro e' w1' ⟨rfl, rfl⟩
      cases hh : holeB y.kind
      · obtain ⟨t0, t1, t2⟩ := htc1
        by_cases heq : t[j] = y
        · have F := Lib.hid (show fitsL p t x (regs16 x) = fitsL (p.drop (i + 1)) (t.drop (j + 1)) x R by rw [HFo.out, List.drop_eq_getElem_cons hjt, heq, fits_cell_yes hh])
          have G := Lib.hid (show ∃ o : Int, PGood (p.drop (i + 1)) o ∧ Wf (t.drop (j + 1)) o from ⟨_, HPG.out, by have h := HWF.out; rw [List.drop_eq_getElem_cons hjt, heq] at h; exact h.2⟩)
          rw [heq] at t0 t1 t2
          clear HFo HPG HWF heq hh HPE htc q0 q1 q2
          go_wp2
          go_quiet (fail)
          go_wp2
          go_roundw
          case rel => exact ⟨i + 1, j + 1, R, by omega, by go_num, by go_num, by omega, hRl, ⟨vs2, HO2.out.below (below_drewN (Below.refl _ _) _)⟩, below_drewN HBa.out _, F, G⟩
          case measure => simp [intOf]; omega
        · have F := Lib.hid (show fitsL p t x (regs16 x) = none by rw [HFo.out, List.drop_eq_getElem_cons hjt, fits_cell_no hh heq])
          clear HFo HPG HWF hh HPE htc q0 q1 q2
          generalize t[j] = z at *
          by_cases hk : z.kind = y.kind
          · by_cases hn : z.n = y.n
            · have htx : (z.text.toList == y.text.toList) = false := text_ne heq hk hn
              rw [hk] at t0
              rw [hn] at t1
              clear heq hk hn
              go_wp2
              go_quiet (fail)
              go_wp2
              go_ret2
              exact FitPost.no F.out (below_drewN HBa.out _)
            · have htx : (z.n == y.n) = false := beq_eq_false_iff_ne.2 hn
              rw [hk] at t0
              clear heq hk
              go_wp2
              go_quiet (fail)
              go_wp2
              go_ret2
              exact FitPost.no F.out (below_drewN HBa.out _)
          · have htx : (z.kind == y.kind) = false := beq_eq_false_iff_ne.2 hk
            clear heq
            go_wp2
            go_quiet (fail)
            go_wp2
            go_ret2
            exact FitPost.no F.out (below_drewN HBa.out _)
      · have hkk := hole_kids hh
        have hr16 := hole_reg HPE.out hh
        obtain ⟨hE1, hE2, hE3⟩ := endE_suffix HWF.out hoo hjt
        have HPART := Lib.hid (take_span j 1 hE2)
        have HSK := Lib.hid (drop_span (l := t) j 1)
        have HWS := Lib.hid (show Wf (skipK (t.drop j) 1) (oo - 1) from by simpa using HWF.out.skip (k := 1) (by omega))
        generalize hm : j + spanK (t.drop j) 1 = m at *
        have HM := Lib.hid hm
        clear hm
        go_wp2_with fail
        refine (rend_any t (some ⟨b2, o2, none⟩) ct j _ (HT.out.below HBa.out) hlt (by omega)).mono ?_
        rw [hE1]
        rintro e' w3 ⟨rfl, hb3⟩
        have k0 := cell_below hb3 (a := ⟨wr.heap.size, 0, none⟩) (v := .int .i64 y.kind) (by go_cell)
        have k1 := cell_below hb3 (a := ⟨wr.heap.size, 1, none⟩) (v := .int .i64 y.n) (by go_cell)
        have HB3 := Lib.hid (below_then HBa.out hb3)
        have HO3 := Lib.hid (HO2.out.below hb3)
        have hjm : (j : Int) ≤ (m : Int) := by omega
        have hmc : (m : Int) ≤ (ct : Int) := by omega
        have hjc : ¬ ct = j := by omega
        have HRP := Lib.hid (show Reads w3 (some ⟨b2, o2 + j * 3, none⟩) ((t.drop j).take (spanK (t.drop j) 1)) from ((HT.out.below HB3.out).drop j).take _)
        have hpn : ((t.drop j).take (spanK (t.drop j) 1)).length = m - j := by rw [List.length_take, List.length_drop]; have := HM.out; omega
        have hp1 : ((t.drop j).take (spanK (t.drop j) 1)).length ≤ 1024 := by rw [hpn]; omega
        have HPN := Lib.hid hpn
        clear hpn hE1 hb3 htc1 htc q0 q1 q2
        obtain ⟨part, hpart⟩ : ∃ part, (t.drop j).take (spanK (t.drop j) 1) = part := ⟨_, rfl⟩
        have HQ := Lib.hid hpart
        rw [hpart] at HRP hp1 HPN
        clear hpart
        obtain ⟨yk, yn, yt⟩ := y
        obtain ⟨mm, rfl⟩ : ∃ mm : Nat, yn = mm := ⟨yn.toNat, by have := hr16.1; simp only at this; omega⟩
        have hmm : mm < 16 := by have := hr16.2; simp only at this; omega
        rcases hole_of hh with hk | hk | hk
        · simp only at hk
          subst hk
          have F := Lib.hid (show fitsL p t x (regs16 x) = fitsL (p.drop (i + 1)) (t.drop m) x R by rw [HFo.out, fits_any rfl, HSK.out])
          have G := Lib.hid (show ∃ o : Int, PGood (p.drop (i + 1)) o ∧ Wf (t.drop m) o from ⟨oo - 1, by have h := HPG.out; rw [hkk] at h; simpa using h, by rw [HSK.out]; exact HWS.out⟩)
          clear HFo HPG HWF HWS hh HPE hkk
          go_wp2
          go_quiet (fail)
          go_wp2
          go_roundw
          case rel => exact ⟨i + 1, m, R, by omega, by go_num, rfl, by omega, hRl, ⟨vs2, HO3.out.below (below_drewN (Below.refl _ _) _)⟩, below_drewN HB3.out _, F, G⟩
          case measure => simp [intOf]; omega
        · simp only at hk
          subst hk
          have F := Lib.hid (show fitsL p t x (regs16 x) = fitsL (p.drop (i + 1)) (t.drop m) x (R.set mm part) by rw [HFo.out, fits_bind rfl, HSK.out, HQ.out]; rfl)
          have G := Lib.hid (show ∃ o : Int, PGood (p.drop (i + 1)) o ∧ Wf (t.drop m) o from ⟨oo - 1, by have h := HPG.out; rw [hkk] at h; simpa using h, by rw [HSK.out]; exact HWS.out⟩)
          clear HFo HPG HWF HWS hh HPE hkk
          go_wp2
          go_quiet (fail)
          go_wp2_with (at_builtin; refine wpList_app _ rfl (.tmp 65) (.tmp 69) _ rfl w3.heap.size _ i0 _ 3 32 Tryd.underlying22 hi hz0 hz1 hz2 rfl (Nat.zero_lt_succ 2) (.slice none 0 0) 0 [] rfl (row_nil _ _ _ _) (some ⟨b2, o2 + j * 3, none⟩) (m - j) (ct - j) (encs part) rfl ?a0 ?a1 ?a2 (Nat.le_refl _) ?a3)
          case a0 => rw [← HPN.out]; exact Src.of_reads (HRP.out.drewN _)
          case a1 => simp only [maxLen]; omega
          case a2 => omega
          case a3 =>
            intro v2 w2 hown2 hg2 hat2
            have hb2 : Below w3.heap.size w3 w2 := (below_drewN (Below.refl w3.heap.size w3) _).grown hg2 (Nat.le_refl _) (by simp [Value.ownBlock])
            have hown3 : w2.ownsRow w3.heap.size 32 3 v2 part.length (encs part) := by rw [HPN.out]; simpa using hown2
            obtain ⟨A2, c2, rfl⟩ := row_slice hown3
            obtain ⟨Ay, cy, p2, _⟩ := (HO3.out.below hb2).cell (n := mm) (by omega)
            have p3 := (HO3.out.below hb2).free mm
            have p1 := cell_below hb2 k1
            have HS := Lib.hid (HO3.out.set_ hb2 (n := mm) (by omega) hown3 HB3.out.size)
            have HB4 := Lib.hid ((below_then HB3.out hb2).setCell (p := ⟨og, mm, none⟩) hlow (.slice A2 part.length c2))
            have hm16 : (mm : Int) < 16 := by omega
            have hm0 : (0 : Int) ≤ (mm : Int) := Int.natCast_nonneg _
            clear hown2 hown3 hg2 hat2 hb2
            go_wp2
            go_roundw
            case rel => exact ⟨i + 1, m, R.set mm part, by omega, by go_num, rfl, by omega, by simp [hRl], ⟨_, HS.out⟩, HB4, F, G⟩
            case measure => simp [intOf]; omega
        · simp only at hk
          subst hk
          have hlr := (reg_fine HFX.out (mm : Int)).lim
          have HX3 := Lib.hid (HX.out.below HB3.out)
          by_cases hps : part = regD x (mm : Int)
          · have F := Lib.hid (show fitsL p t x (regs16 x) = fitsL (p.drop (i + 1)) (t.drop m) x R by rw [HFo.out, fits_same_yes rfl (by rw [HQ.out]; exact hps), HSK.out])
            have G := Lib.hid (show ∃ o : Int, PGood (p.drop (i + 1)) o ∧ Wf (t.drop m) o from ⟨oo - 1, by have h := HPG.out; rw [hkk] at h; simpa using h, by rw [HSK.out]; exact HWS.out⟩)
            have HD := Lib.hid (decide_eq_true hps)
            clear HFo HPG HWF HWS hh HPE hkk hps
            go_wp2_with fail
            go_region_held3 (fun w' => w'.cell? ⟨wr.heap.size, 0, none⟩ = some (.int .i64 13) ∧ w'.cell? ⟨wr.heap.size, 1, none⟩ = some (.int .i64 mm) ∧ Below w3.heap.size w3 w')
              (first
                | exact ⟨k0, k1, (Below.refl _ _).drew⟩
                | exact (fun hB' => ⟨cell_below hB' k0, cell_below hB' k1, hB'⟩) (below_then (by assumption) hbc)
                | exact (fun hB' => ⟨cell_below hB' k0, cell_below hB' k1, hB'⟩) (below_then (Below.drew (by assumption)) hbc)
                | go_keep)
              (first
                | (go_at_call 65; go_split_ands; refine (reg_any x (mm : Int) C cx _ (HX3.out.below (by assumption)) hlx).mono ?_; rintro e wc ⟨A5, c5, rfl, hc5, hR5, hbc⟩)
                | (go_at_call 26; go_split_ands; refine (rsame_at (some ⟨b2, o2 + j * 3, none⟩) A5 (ct - j) c5 part (m - j) HPN.out (regD x (mm : Int)) _ (HRP.out.below (by assumption)) hR5 (by omega) hlr).mono ?_; rintro e wc ⟨rfl, hbc⟩; rw [HD.out]))
            have hbe : Below w3.heap.size w3 wc := below_then (by assumption) hbc
            have HBe := Lib.hid (below_then HB3.out hbe)
            have HOe := Lib.hid (HO3.out.below hbe)
            have k0' := cell_below hbe k0
            have k1' := cell_below hbe k1
            go_wp2
            go_roundw
            case rel => exact ⟨i + 1, m, R, by omega, by go_num, rfl, by omega, hRl, ⟨vs2, HOe.out⟩, HBe, F, G⟩
            case measure => simp [intOf]; omega
          · have F := Lib.hid (show fitsL p t x (regs16 x) = none by rw [HFo.out, fits_same_no rfl (by rw [HQ.out]; exact hps)])
            have HD := Lib.hid (decide_eq_false hps)
            clear HFo HPG HWF HWS hh HPE hkk hps
            go_wp2_with fail
            go_region_held3 (fun w' => w'.cell? ⟨wr.heap.size, 0, none⟩ = some (.int .i64 13) ∧ w'.cell? ⟨wr.heap.size, 1, none⟩ = some (.int .i64 mm) ∧ Below w3.heap.size w3 w')
              (first
                | exact ⟨k0, k1, (Below.refl _ _).drew⟩
                | exact (fun hB' => ⟨cell_below hB' k0, cell_below hB' k1, hB'⟩) (below_then (by assumption) hbc)
                | exact (fun hB' => ⟨cell_below hB' k0, cell_below hB' k1, hB'⟩) (below_then (Below.drew (by assumption)) hbc)
                | go_keep)
              (first
                | (go_at_call 65; go_split_ands; refine (reg_any x (mm : Int) C cx _ (HX3.out.below (by assumption)) hlx).mono ?_; rintro e wc ⟨A5, c5, rfl, hc5, hR5, hbc⟩)
                | (go_at_call 26; go_split_ands; refine (rsame_at (some ⟨b2, o2 + j * 3, none⟩) A5 (ct - j) c5 part (m - j) HPN.out (regD x (mm : Int)) _ (HRP.out.below (by assumption)) hR5 (by omega) hlr).mono ?_; rintro e wc ⟨rfl, hbc⟩; rw [HD.out]))
            have hbe : Below w3.heap.size w3 wc := below_then (by assumption) hbc
            have HBe := Lib.hid (below_then HB3.out hbe)
            go_wp2
            go_ret2
            exact FitPost.no F.out HBe.out
    · obtain rfl : i = p.length := by omega
      have F := Lib.hid (show fitsL p t x (regs16 x) = some R by rw [hFr.out, List.drop_length]; rfl)
      obtain ⟨vs2, hO2⟩ := hMr.out
      have HO2 := Lib.hid hO2
      clear hO2 hFr hGr hMr
      go_wp2
      go_ret2
      exact FitPost.yes F.out hRl HO2.out hBr.out
end Go.Proofs.YtefpolgflimlgaaDoor.Tm
