/- The law PatternOnly. -/
import Derived.Test.YtefpolgflimlgaaDoorPatO
import Derived.Test.YtefpolgflimlgaaDoorSameAll
namespace Go.Proofs.YtefpolgflimlgaaDoor.Tm
open Go.RowKit
set_option linter.unusedVariables false
set_option linter.unusedSimpArgs false

theorem RegsAt.some {W : World} {base : Nat} {v : Value} {R : List (List CellD)} (h : RegsAt W base v R) (hn : R.length = 16) : ∃ og vs, v = .slice (some ⟨og, 0, none⟩) 16 16 ∧ Outs W base og vs R := by
  rcases h with ⟨rfl, _⟩ | ⟨og, vs, e, _, o⟩
  · cases hn
  · exact ⟨og, vs, e, o⟩
theorem RegsAt.none_ {W : World} {base : Nat} {v : Value} (h : RegsAt W base v []) : v = .slice none 0 0 := by
  rcases h with ⟨_, e⟩ | ⟨_, _, _, h, _⟩
  · exact e
  · cases h
theorem regs16_lim {x : List (List CellD)} (h : Fine2 x) : ∀ l ∈ regs16 x, l.length ≤ 1000000000000000 := by
  intro l hl
  simp only [regs16, List.mem_map] at hl
  obtain ⟨n, _, rfl⟩ := hl
  exact (reg_fine h _).lim
theorem of_ok {t : List CellD} (h : (ofTermE t).2 = 0) : (ofTermE t).1 = t := by
  unfold ofTermE at h ⊢
  split at h
  · rename_i hc; exact absurd h hc
  · split at h
    · cases h
    · rename_i h1 h2
      rw [if_neg h1, if_neg h2]
set_option maxRecDepth 100000 in
set_option maxHeartbeats 8000000 in
theorem patternOnly_any (t u : List CellD) (x : List (List CellD)) (A B C : Option Addr) (c d cx : Nat) (w : World) (ht : Reads w A t) (hu : Reads w B u) (hx : Reads2 w C x) (ft : Fine t) (fu : Fine u) (fx : Fine2 x) (hd : u.length ≤ d) (hlx : x.length ≤ 1000000000000000) (hT : Tabs w) :
    Calls Tryd.prog 14 #[.slice A t.length c, .slice B u.length d, .slice C x.length cx] w fun e w' => e = .returned (.bool true) ∧ Below w.heap.size w w' := by
  have HT := Lib.hid ht
  have HU := Lib.hid hu
  have HX := Lib.hid hx
  have FT := Lib.hid ft
  have FU := Lib.hid fu
  have FX := Lib.hid fx
  have HTT := Lib.hid hT
  have hlt := ft.lim
  have hlu := fu.lim
  clear ht hu hx ft fu fx hT
  go_enter Tryd.func14, Tryd.ntmps14
  go_wp2_with fail
  refine (pofterm_any t A c _ HT.out FT.out HTT.out).mono ?_
  rintro e w1 ⟨A1, c1, rfl, hc1, hR1, hB1⟩
  have HR1 := Lib.hid hR1
  have HU1 := Lib.hid (HU.out.below hB1)
  clear hR1
  go_wp2_with fail
  refine (rright_any u B d _ HU1.out FU.out.text FU.out.lim).mono ?_
  rintro e w2 ⟨rfl, hb2⟩
  have HB2 := Lib.hid (below_then hB1 hb2)
  have HR2 := Lib.hid (HR1.out.below hb2)
  have HT2 := Lib.hid (Utf8Tabs_below HTT.out HB2.out)
  clear hB1 hb2
  by_cases ee : (ofTermE t).2 ≠ 0
  · have te : ((ofTermE t).2 != 0) = true := by rw [bne_iff_ne]; exact ee
    clear ee
    generalize (ofTermE t).2 = E at *
    generalize (ofTermE t).1.length = L at *
    go_wp2_with fail
    refine (awake8_any _ HT2.out).mono ?_
    rintro e w9 ⟨rfl, hb9⟩
    go_wp2
    go_ret
    exact ⟨rfl, below_then HB2.out hb9⟩
  have ee : (ofTermE t).2 = 0 := Decidable.not_not.1 ee
  have te : ((ofTermE t).2 != 0) = false := by rw [bne_eq_false_iff_eq]; exact ee
  have EE := Lib.hid ee
  have hot := of_ok ee
  rw [hot] at HR2 hc1 ⊢
  clear ee hot
  by_cases eu : (rightE u).1 ≠ 0
  · have tu : ((rightE u).1 != 0) = true := by rw [bne_iff_ne]; exact eu
    clear eu
    generalize (ofTermE t).2 = E at *
    generalize (rightE u).1 = E2 at *
    go_wp2_with fail
    refine (awake8_any _ HT2.out).mono ?_
    rintro e w9 ⟨rfl, hb9⟩
    go_wp2
    go_ret
    exact ⟨rfl, below_then HB2.out hb9⟩
  have eu : (rightE u).1 = 0 := Decidable.not_not.1 eu
  have tu : ((rightE u).1 != 0) = false := by rw [bne_eq_false_iff_eq]; exact eu
  have EU := Lib.hid eu
  clear eu
  go_wp2_with fail
  refine (rwrong8_any x C cx _ (HX.out.below HB2.out) FX.out hlx).mono ?_
  rintro e w3 ⟨rfl, hb3⟩
  have HB3 := Lib.hid (below_then HB2.out hb3)
  have HR3 := Lib.hid (HR2.out.below hb3)
  have HT3 := Lib.hid (Utf8Tabs_below HTT.out HB3.out)
  clear hb3
  by_cases ex : wrong8 x ≠ 0
  · have tx : (wrong8 x != 0) = true := by rw [bne_iff_ne]; exact ex
    clear ex
    generalize (ofTermE t).2 = E at *
    generalize (rightE u).1 = E2 at *
    generalize wrong8 x = E3 at *
    go_wp2_with fail
    refine (awake8_any _ HT3.out).mono ?_
    rintro e w9 ⟨rfl, hb9⟩
    go_wp2
    go_ret
    exact ⟨rfl, below_then HB3.out hb9⟩
  have ex : wrong8 x = 0 := Decidable.not_not.1 ex
  have tx : (wrong8 x != 0) = false := by rw [bne_eq_false_iff_eq]; exact ex
  have LW := Lib.hid (only_law EE.out EU.out ex)
  clear ex
  go_wp2_with fail
  refine (pmatch_any t u x A1 B C c1 d cx _ HR3.out FT.out (HU.out.below HB3.out) FU.out (HX.out.below HB3.out) FX.out hd hlx HT3.out).mono ?_
  rw [LW.out.2.1]
  by_cases htu : t = u
  · rw [if_pos htu]
    rintro e w4 ⟨v, rfl, hR, hb4⟩
    obtain ⟨og, vs, rfl, hO⟩ := hR.some (regs16_len x)
    have hB4 := below_then HB3.out hb4
    have HO4 := Lib.hid hO
    have HR4 := Lib.hid (HR3.out.below hb4)
    have hdt : decide (t = u) = true := decide_eq_true htu
    have HD := Lib.hid hdt
    clear hO hR hb4 htu hdt
    go_wp2_with fail
    refine (rsame_any A B c d t u _ (HT.out.below hB4) (HU.out.below hB4) hlt hlu).mono ?_
    rintro e w5 ⟨rfl, hb5⟩
    rw [HD.out]
    have hB5 := below_then hB4 hb5
    have HO5 := Lib.hid (HO4.out.below hb5)
    have HR5 := Lib.hid (HR4.out.below hb5)
    clear hb5 hB4
    go_wp2_with fail
    refine (rregs_any x C cx _ (HX.out.below hB5) FX.out hlx).mono ?_
    rintro e w6 ⟨og2, vs2, rfl, hO6, hb6⟩
    have hB6 := below_then hB5 hb6
    have HO6 := Lib.hid hO6
    have HO56 := Lib.hid (HO5.out.below hb6)
    have HR6 := Lib.hid (HR5.out.below hb6)
    clear hb6 hB5 hO6
    go_wp2_with fail
    refine (sameAll_any 16 (regs16 x) (regs16_len x) _ _ 16 16 _ HO56.out.reads HO6.out.reads (regs16_lim FX.out) (by omega)).mono ?_
    rintro e w7 ⟨rfl, hb7⟩
    have hB7 := below_then hB6 hb7
    have HR7 := Lib.hid (HR6.out.below hb7)
    clear hb7 hB6
    go_wp2_with fail
    refine (pbinds_any t A1 c1 _ HR7.out hlt).mono ?_
    rw [LW.out.2.2]
    rintro e w8 ⟨A8, c8, rfl, hI8, hb8⟩
    have hB8 := below_then hB7 hb8
    clear hb8 hB7 hI8
    go_wp2_with fail
    refine (awake8_any _ (Utf8Tabs_below HTT.out hB8)).mono ?_
    rintro e w9 ⟨rfl, hb9⟩
    go_wp2
    go_ret
    exact ⟨rfl, below_then hB8 hb9⟩
  · rw [if_neg htu]
    rintro e w4 ⟨v, rfl, hR, hb4⟩
    obtain rfl := hR.none_
    have hB4 := below_then HB3.out hb4
    have HR4 := Lib.hid (HR3.out.below hb4)
    have hdt : decide (t = u) = false := decide_eq_false htu
    have HD := Lib.hid hdt
    clear hR hb4 htu hdt
    go_wp2_with fail
    refine (rsame_any A B c d t u _ (HT.out.below hB4) (HU.out.below hB4) hlt hlu).mono ?_
    rintro e w5 ⟨rfl, hb5⟩
    rw [HD.out]
    have hB5 := below_then hB4 hb5
    have HR5 := Lib.hid (HR4.out.below hb5)
    clear hb5 hB4
    go_wp2_with fail
    refine (pbinds_any t A1 c1 _ HR5.out hlt).mono ?_
    rw [LW.out.2.2]
    rintro e w8 ⟨A8, c8, rfl, hI8, hb8⟩
    have hB8 := below_then hB5 hb8
    clear hb8 hB5 hI8
    go_wp2_with fail
    refine (awake8_any _ (Utf8Tabs_below HTT.out hB8)).mono ?_
    rintro e w9 ⟨rfl, hb9⟩
    go_wp2
    go_ret
    exact ⟨rfl, below_then hB8 hb9⟩
theorem patternOnly_row (A : Option Addr) (c : Nat) (t : List CellD) (B : Option Addr) (d : Nat) (u : List CellD) (C : Option Addr) (cx : Nat) (x : List (List CellD)) (w : World) (hT : Tabs w) (h1 : t.length ≤ c) (ht : Reads w A t) (s1 : ∀ j (h : j < t.length), (t[j]).text.size ≤ 9223372036854775807) (y1 : t.length * 32 ≤ 140737488351232)
    (h2 : u.length ≤ d) (hu : Reads w B u) (s2 : ∀ j (h : j < u.length), (u[j]).text.size ≤ 9223372036854775807) (y2 : u.length * 32 ≤ 140737488351232) (h5 : x.length ≤ cx) (hx : Reads2 w C x) (fx : Fine2 x) (y5 : x.length * 24 ≤ 140737488351232) :
    Calls Tryd.prog 14 #[.slice A t.length c, .slice B u.length d, .slice C x.length cx] w fun e w' => e = .returned (.bool true) ∧ Below w.heap.size w w' :=
  patternOnly_any t u x A B C c d cx w ht hu hx ⟨y1, s1⟩ ⟨y2, s2⟩ fx h2 (by omega) hT
end Go.Proofs.YtefpolgflimlgaaDoor.Tm
