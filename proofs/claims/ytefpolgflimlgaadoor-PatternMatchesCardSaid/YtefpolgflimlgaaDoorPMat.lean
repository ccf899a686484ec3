/- The law PatternMatches. -/
import Derived.Test.YtefpolgflimlgaaDoorMatR
import Derived.Test.YtefpolgflimlgaaDoorPBack
import Derived.Test.YtefpolgflimlgaaDoorPatK
namespace Go.Proofs.YtefpolgflimlgaaDoor.Tm
open Go.RowKit
set_option linter.unusedVariables false
set_option linter.unusedSimpArgs false

theorem fits_small : ∀ (p t : List CellD) (x o out : List (List CellD)), fitsL p t x o = some out → t.length ≤ 1024 → (∀ l ∈ o, l.length ≤ 1024) → ∀ l ∈ out, l.length ≤ 1024
  | [], t, x, o, out, h, ht, ho => by rw [fitsL] at h; injection h with h; rw [← h]; exact ho
  | c :: p, t, x, o, out, h, ht, ho => by
    rw [fitsL] at h
    split at h
    · split at h
      · cases h
      · refine fits_small p _ x _ out h (by unfold skipK; rw [List.length_drop]; omega) ?_
        split
        · intro l hl
          rcases List.mem_or_eq_of_mem_set hl with k | k
          · exact ho l k
          · rw [k, List.length_take]; omega
        · exact ho
    · split at h
      · exact fits_small p _ x _ out h (by rw [List.length_tail]; omega) ho
      · cases h
set_option maxHeartbeats 1000000 in
theorem spoilNil_any (w : World) : Calls Tryd.prog 53 #[.slice none 0 0] w fun e w' => e = .returned (.tuple #[]) ∧ Below w.heap.size w w' := by
  go_enter Tryd.func53, Tryd.ntmps53
  go_wp2_with fail
  go_loopw [2] (fun i wr => i = .int .i64 0 ∧ wr = w) (fun i wr => 0)
  case atStart => exact ⟨rfl, rfl⟩
  case round =>
    obtain ⟨rfl, rfl⟩ := hrel
    go_wp2
    go_end0
    exact ⟨rfl, Below.refl _ _⟩
theorem match_small {p t : List CellD} {x : List (List CellD)} (m : (matchE p t x).2.1 = true ∧ (matchE p t x).2.2 = 0) : ∀ j (h : j < (matchE p t x).1.length), (matchE p t x).1[j].length ≤ 1024 := by
  obtain ⟨out, e, hf⟩ := match_some m
  obtain ⟨m1, m2, m3, m4, m5⟩ := match_ok.1 m
  have hs := fits_small p t x _ out hf (rightE_ok m2).2.2 (fun l hl => by
    simp only [regs16, List.mem_map] at hl
    obtain ⟨n, _, rfl⟩ := hl
    exact reg_1024 (wrong8_regs m3).2 _)
  intro j h
  have hm := List.getElem_mem h
  simp only [e] at hm ⊢
  exact hs _ hm
set_option maxRecDepth 100000 in
set_option maxHeartbeats 8000000 in
theorem patternMatches_any (p t : List CellD) (x : List (List CellD)) (A B C : Option Addr) (cp ct cx : Nat) (w : World) (hp : Reads w A p) (fp : Fine p) (ht : Reads w B t) (ft : Fine t) (hx : Reads2 w C x) (fx : Fine2 x) (hcp : p.length ≤ cp) (hct : t.length ≤ ct) (hlx : (x.length + 1) * 24 ≤ 140737488355328) (hT : Tabs w) :
    Calls Tryd.prog 8 #[.slice A p.length cp, .slice B t.length ct, .slice C x.length cx] w fun e w' => e = .returned (.bool true) ∧ Below w.heap.size w w' := by
  have hlp := fp.len
  have hlt := ft.len
  have HP := Lib.hid hp
  have FP := Lib.hid fp
  have HB := Lib.hid ht
  have FT := Lib.hid ft
  have HX := Lib.hid hx
  have FX := Lib.hid fx
  have HT := Lib.hid hT
  clear hp fp ht ft hx fx hT
  go_enter Tryd.func8, Tryd.ntmps8
  go_wp2_with fail
  refine (plent_any p A cp _ HP.out (by omega)).mono ?_
  rintro e w1 ⟨A1, c1, rfl, hL1, hB1⟩
  have HL1 := Lib.hid hL1
  clear hL1
  go_wp2_with fail
  refine (lent_any t B ct _ (HB.out.below hB1) (by omega)).mono ?_
  rintro e w2 ⟨A2, c2, rfl, hL2, hb2⟩
  have hB2 := below_then hB1 hb2
  have HL2 := Lib.hid hL2
  have HL12 := Lib.hid (HL1.out.below hb2)
  clear hL2 hb2 hB1
  go_wp2_with fail
  refine (lents_any x C cx _ (HX.out.below hB2) FX.out hlx).mono ?_
  rintro e w3 ⟨A3, c3, rfl, hL3, hb3⟩
  have hB3 := below_then hB2 hb3
  have HW3 := Lib.hid hB3
  have HL3 := Lib.hid hL3
  have HL13 := Lib.hid (HL12.out.below hb3)
  have HL23 := Lib.hid (HL2.out.below hb3)
  have hc2 := HL2.out.lenCap
  have HP3 := Lib.hid (HP.out.below hB3)
  have HB3 := Lib.hid (HB.out.below hB3)
  have HX3 := Lib.hid (HX.out.below hB3)
  have HT3 := Lib.hid (Utf8Tabs_below HT.out hB3)
  have hz3 := hB3.size
  clear hL3 hb3 hB3 hB2 HL1 HL2 HL12 HP HB HX HT
  go_wp2_with fail
  refine (pmatch_any p t x A1 A2 A3 c1 c2 c3 _ HL13.out.reads FP.out HL23.out.reads FT.out HL3.out.reads FX.out hc2 (by omega) HT3.out).mono ?_
  by_cases hm : (matchE p t x).2.1 = true ∧ (matchE p t x).2.2 = 0
  · have MF := Lib.hid (match_fine hm FT.out FX.out)
    have MS := Lib.hid (match_small hm)
    have ML := (back_law hm).1
    have HM := Lib.hid hm
    rintro e w4 ⟨v1, rfl, hR1, hb4⟩
    rw [hm.1, hm.2]
    obtain ⟨og1, vs1, rfl, hO1⟩ := regs_some hR1 ML
    have HO1 := Lib.hid hO1
    have HB4 := Lib.hid hb4
    clear hR1 hO1 hb4 hm
    go_wp2_with fail
    refine (pmatch_any p t x A1 A2 A3 c1 c2 c3 _ (HL13.out.below HB4.out).reads FP.out (HL23.out.below HB4.out).reads FT.out (HL3.out.below HB4.out).reads FX.out hc2 (by omega) (Utf8Tabs_below HT3.out HB4.out)).mono ?_
    rintro e w5 ⟨v2, rfl, hR2, hb5⟩
    rw [HM.out.1, HM.out.2]
    obtain ⟨og2, vs2, rfl, hO2⟩ := regs_some hR2 ML
    have HO2 := Lib.hid hO2
    have HO15 := Lib.hid (HO1.out.below hb5)
    have HB5 := Lib.hid (below_then HB4.out hb5)
    have hz5 := hb5.size
    clear hR2 hO2 hb5
    go_wp2_with fail
    refine (rmatch_any p t x A B C cp ct cx _ (HP3.out.below HB5.out) FP.out (HB3.out.below HB5.out) FT.out (HX3.out.below HB5.out) FX.out hcp hct (by omega)).mono ?_
    rintro e w6 ⟨v3, rfl, hR3, hb6⟩
    rw [HM.out.1, HM.out.2]
    obtain ⟨og3, vs3, rfl, hO3⟩ := regs_some hR3 ML
    have HO3 := Lib.hid hO3
    have HO16 := Lib.hid (HO15.out.below hb6)
    have HO26 := Lib.hid (HO2.out.below hb6)
    have HB6 := Lib.hid (below_then HB5.out hb6)
    clear hR3 hO3 hb6
    have HLM := Lib.hid (show ∀ l ∈ (matchE p t x).1, l.length ≤ 1000000000000000 from fun l hl => by
      obtain ⟨j, hj, rfl⟩ := List.getElem_of_mem hl
      have := MS.out j hj
      omega)
    generalize (matchE p t x).1 = R at *
    go_wp2_with fail
    refine (sameAll_any 16 R ML _ _ 16 16 _ HO16.out.reads HO3.out.reads HLM.out (by omega)).mono ?_
    rintro e w7 ⟨rfl, hb7⟩
    have HO17 := Lib.hid (HO16.out.below hb7)
    have HO27 := Lib.hid (HO26.out.below hb7)
    have HO37 := Lib.hid (HO3.out.below hb7)
    have HB7 := Lib.hid (below_then HB6.out hb7)
    clear hb7
    go_wp2_with fail
    refine (pkept_any p A1 A _ c1 cp _ (HL13.out.below HB7.out) (HP3.out.below HB7.out) (by omega)).mono ?_
    rintro e w8 ⟨rfl, hb8⟩
    have HO18 := Lib.hid (HO17.out.below hb8)
    have HO28 := Lib.hid (HO27.out.below hb8)
    have HO38 := Lib.hid (HO37.out.below hb8)
    have HB8 := Lib.hid (below_then HB7.out hb8)
    clear hb8
    go_wp2_with fail
    refine (kept_any t A2 B _ c2 ct _ (HL23.out.below HB8.out) (HB3.out.below HB8.out) (by omega)).mono ?_
    rintro e w9 ⟨rfl, hb9⟩
    have HO19 := Lib.hid (HO18.out.below hb9)
    have HO29 := Lib.hid (HO28.out.below hb9)
    have HO39 := Lib.hid (HO38.out.below hb9)
    have HB9 := Lib.hid (below_then HB8.out hb9)
    clear hb9
    go_wp2_with fail
    refine (keptAll_any x A3 C _ c3 cx _ (HL3.out.below HB9.out) (HX3.out.below HB9.out) FX.out hlx).mono ?_
    rintro e wa ⟨rfl, hba⟩
    have HO1a := Lib.hid (HO19.out.below hba)
    have HO2a := Lib.hid (HO29.out.below hba)
    have HO3a := Lib.hid (HO39.out.below hba)
    have HBa := Lib.hid (below_then HB9.out hba)
    have HH := Lib.hid (show ∀ j (h : j < R.length) A c, vs1[j]? = some (.slice A R[j].length c) → ∀ k, (Value.slice A R[j].length c).ownBlock = some k → k < w4.heap.size from fun j h A c e k hk => by
      obtain ⟨A', c', e', p'⟩ := HO1.out.val h
      rw [e] at e'
      injection e' with e'
      rw [e'] at hk
      exact row_lt p' k hk)
    clear hba
    go_wp2_with fail
    refine (spoilAll_any R vs1 w3.heap.size w4.heap.size og1 _ HO1a.out ML MS.out HBa.out.size HH.out).mono ?_
    rintro e wb ⟨rfl, hS⟩
    have HO2b := Lib.hid (HO2a.out.spared hS (Nat.le_refl _))
    have HO3b := Lib.hid (HO3a.out.spared hS hz5)
    have HBb := Lib.hid (HBa.out.trans hS.bel)
    clear hS
    go_wp2_with fail
    refine (sameAll_any 16 R ML _ _ 16 16 _ HO2b.out.reads HO3b.out.reads HLM.out (by omega)).mono ?_
    rintro e wc ⟨rfl, hbc⟩
    have HBc := Lib.hid (below_then HBb.out hbc)
    clear hbc
    go_wp2_with fail
    refine (kept_any t A2 B _ c2 ct _ (HL23.out.below HBc.out) (HB3.out.below HBc.out) (by omega)).mono ?_
    rintro e wd ⟨rfl, hbd⟩
    have HBd := Lib.hid (below_then HBc.out hbd)
    clear hbd
    go_wp2_with fail
    refine (keptAll_any x A3 C _ c3 cx _ (HL3.out.below HBd.out) (HX3.out.below HBd.out) FX.out hlx).mono ?_
    rintro e we ⟨rfl, hbe⟩
    have HBe := Lib.hid (below_then HBd.out hbe)
    clear hbe
    go_wp2_with fail
    refine (awake8_any _ (Utf8Tabs_below HT3.out HBe.out)).mono ?_
    rintro e wf ⟨rfl, hbf⟩
    go_wp2
    go_ret
    exact ⟨rfl, below_then HW3.out (below_then HBe.out hbf)⟩
  · have HN := Lib.hid (match_nil hm)
    clear hm
    rintro e w4 ⟨v1, rfl, hR1, hb4⟩
    rw [HN.out] at hR1
    obtain rfl := regs_none hR1
    have HB4 := Lib.hid hb4
    clear hR1 hb4
    generalize hmb : (matchE p t x).2.1 = mb at *
    generalize hmk : (matchE p t x).2.2 = mk at *
    have HMB := Lib.hid hmb
    have HMK := Lib.hid hmk
    clear hmb hmk
    go_wp2_with fail
    refine (pmatch_any p t x A1 A2 A3 c1 c2 c3 _ (HL13.out.below HB4.out).reads FP.out (HL23.out.below HB4.out).reads FT.out (HL3.out.below HB4.out).reads FX.out hc2 (by omega) (Utf8Tabs_below HT3.out HB4.out)).mono ?_
    rintro e w5 ⟨v2, rfl, hR2, hb5⟩
    rw [HMB.out, HMK.out]
    rw [HN.out] at hR2
    obtain rfl := regs_none hR2
    have HB5 := Lib.hid (below_then HB4.out hb5)
    clear hR2 hb5
    go_wp2_with fail
    refine (rmatch_any p t x A B C cp ct cx _ (HP3.out.below HB5.out) FP.out (HB3.out.below HB5.out) FT.out (HX3.out.below HB5.out) FX.out hcp hct (by omega)).mono ?_
    rintro e w6 ⟨v3, rfl, hR3, hb6⟩
    rw [HMB.out, HMK.out]
    rw [HN.out] at hR3
    obtain rfl := regs_none hR3
    have HB6 := Lib.hid (below_then HB5.out hb6)
    clear hR3 hb6
    have s1 : (mb != mb) = false := by simp
    have s2 : (mk != mk) = false := by simp
    have N2 := Lib.hid (show ∀ (W : World), Reads2 W none [] from fun W j hj => absurd hj (Nat.not_lt_zero j))
    go_wp2_with fail
    refine (sameAll_any 0 [] rfl none none 0 0 _ (N2.out _) (N2.out _) (fun l hl => by cases hl) (by omega)).mono ?_
    rintro e w7 ⟨rfl, hb7⟩
    have HB7 := Lib.hid (below_then HB6.out hb7)
    clear hb7
    go_wp2_with fail
    refine (pkept_any p A1 A _ c1 cp _ (HL13.out.below HB7.out) (HP3.out.below HB7.out) (by omega)).mono ?_
    rintro e w8 ⟨rfl, hb8⟩
    have HB8 := Lib.hid (below_then HB7.out hb8)
    clear hb8
    go_wp2_with fail
    refine (kept_any t A2 B _ c2 ct _ (HL23.out.below HB8.out) (HB3.out.below HB8.out) (by omega)).mono ?_
    rintro e w9 ⟨rfl, hb9⟩
    have HB9 := Lib.hid (below_then HB8.out hb9)
    clear hb9
    go_wp2_with fail
    refine (keptAll_any x A3 C _ c3 cx _ (HL3.out.below HB9.out) (HX3.out.below HB9.out) FX.out hlx).mono ?_
    rintro e wa ⟨rfl, hba⟩
    have HBa := Lib.hid (below_then HB9.out hba)
    clear hba
    go_wp2_with fail
    refine (spoilNil_any _).mono ?_
    rintro e wb ⟨rfl, hbb⟩
    have HBb := Lib.hid (below_then HBa.out hbb)
    clear hbb
    go_wp2_with fail
    refine (sameAll_any 0 [] rfl none none 0 0 _ (N2.out _) (N2.out _) (fun l hl => by cases hl) (by omega)).mono ?_
    rintro e wc ⟨rfl, hbc⟩
    have HBc := Lib.hid (below_then HBb.out hbc)
    clear hbc
    go_wp2_with fail
    refine (kept_any t A2 B _ c2 ct _ (HL23.out.below HBc.out) (HB3.out.below HBc.out) (by omega)).mono ?_
    rintro e wd ⟨rfl, hbd⟩
    have HBd := Lib.hid (below_then HBc.out hbd)
    clear hbd
    go_wp2_with fail
    refine (keptAll_any x A3 C _ c3 cx _ (HL3.out.below HBd.out) (HX3.out.below HBd.out) FX.out hlx).mono ?_
    rintro e we ⟨rfl, hbe⟩
    have HBe := Lib.hid (below_then HBd.out hbe)
    clear hbe
    go_wp2_with fail
    refine (awake8_any _ (Utf8Tabs_below HT3.out HBe.out)).mono ?_
    rintro e wf ⟨rfl, hbf⟩
    go_wp2
    go_ret
    exact ⟨rfl, below_then HW3.out (below_then HBe.out hbf)⟩
theorem patternMatches_row (A : Option Addr) (c : Nat) (p : List CellD) (B : Option Addr) (d : Nat) (t : List CellD) (C : Option Addr) (cx : Nat) (x : List (List CellD)) (w : World) (hT : Tabs w) (h1 : p.length ≤ c) (hp : Reads w A p) (s1 : ∀ j (h : j < p.length), (p[j]).text.size ≤ 9223372036854775807) (y1 : p.length * 32 ≤ 140737488351232)
    (h2 : t.length ≤ d) (ht : Reads w B t) (s2 : ∀ j (h : j < t.length), (t[j]).text.size ≤ 9223372036854775807) (y2 : t.length * 32 ≤ 140737488351232) (h5 : x.length ≤ cx) (hx : Reads2 w C x) (fx : Fine2 x) (y5 : x.length * 24 ≤ 140737488351232) :
    Calls Tryd.prog 8 #[.slice A p.length c, .slice B t.length d, .slice C x.length cx] w fun e w' => e = .returned (.bool true) ∧ Below w.heap.size w w' :=
  patternMatches_any p t x A B C c d cx w hp ⟨y1, s1⟩ ht ⟨y2, s2⟩ hx fx h1 h2 (by omega) hT
end Go.Proofs.YtefpolgflimlgaaDoor.Tm
