/- The law PatternRights. -/
import Derived.Test.YtefpolgflimlgaaDoorPatK
namespace Go.Proofs.YtefpolgflimlgaaDoor.Tm
open Go.RowKit
set_option linter.unusedVariables false
set_option linter.unusedSimpArgs false

set_option maxRecDepth 100000 in
set_option maxHeartbeats 4000000 in
theorem patternRights_any (p : List CellD) (at_ : Int) (A : Option Addr) (c : Nat) (w : World) (hr : Reads w A p) (hf : Fine p) (hc : p.length ≤ c) (hn : -9223372036854775808 ≤ at_ ∧ at_ < 9223372036854775808) (hT : Tabs w) :
    Calls Tryd.prog 13 #[.slice A p.length c, .int .i64 at_] w fun e w' => e = .returned (.bool true) ∧ Below w.heap.size w w' := by
  have hl := hf.lim
  have hlen := hf.len
  have n1 := named_len p 12
  have n2 := named_len p 13
  have HR := Lib.hid hr
  have HF := Lib.hid hf
  have HT := Lib.hid hT
  clear hr hf hT
  go_enter Tryd.func13, Tryd.ntmps13
  go_wp2_with fail
  refine (plent_any p A c _ HR.out (by omega)).mono ?_
  rintro e w1 ⟨A1, c1, rfl, hL, hB1⟩
  have HL := Lib.hid hL
  clear hL
  go_wp2_with fail
  refine (pright_any p A1 c1 _ HL.out.reads HF.out (Utf8Tabs_below HT.out hB1)).mono ?_
  rintro e w2 ⟨rfl, hb2⟩
  have hB2 := below_then hB1 hb2
  have HL2 := Lib.hid (HL.out.below hb2)
  go_wp2_with fail
  refine (prright_any p A c _ (HR.out.below hB2) HF.out hc).mono ?_
  rintro e w3 ⟨rfl, hb3⟩
  have hB3 := below_then hB2 hb3
  have HL3 := Lib.hid (HL2.out.below hb3)
  go_wp2_with fail
  refine (pend_any p A1 c1 at_ _ HL3.out.reads hl hn).mono ?_
  rintro e w4 ⟨rfl, hb4⟩
  have hB4 := below_then hB3 hb4
  have HL4 := Lib.hid (HL3.out.below hb4)
  go_wp2_with fail
  refine (prend_any p A c at_ _ (HR.out.below hB4) hl hn).mono ?_
  rintro e w5 ⟨rfl, hb5⟩
  have hB5 := below_then hB4 hb5
  have HL5 := Lib.hid (HL4.out.below hb5)
  generalize (prightE p).1 = e1
  generalize (prightE p).2 = e2
  generalize (endE p at_).1 = e3
  generalize (endE p at_).2 = e4
  have s1 : (e1 != e1) = false := by simp
  have s2 : (e2 != e2) = false := by simp
  have s3 : (e3 != e3) = false := by simp
  have s4 : (e4 != e4) = false := by simp
  clear hB1 hb2 hB2 hb3 hB3 hb4 hB4 hb5
  go_wp2_with fail
  refine (pbinds_any p A1 c1 _ HL5.out.reads hl).mono ?_
  rintro e w6 ⟨A6, c6, rfl, hI6, hb6⟩
  have hB6 := below_then hB5 hb6
  have HI6 := Lib.hid hI6
  have HL6 := Lib.hid (HL5.out.below hb6)
  clear hI6 hb6 hB5
  go_wp2_with fail
  refine (rnamed_any p 12 A c _ (HR.out.below hB6) hl).mono ?_
  rintro e w7 ⟨A7, c7, rfl, hI7, hb7⟩
  have hB7 := below_then hB6 hb7
  have HI7 := Lib.hid hI7
  have HI67 := Lib.hid (HI6.out.below hb7)
  have HL7 := Lib.hid (HL6.out.below hb7)
  clear hI7 hb7 hB6
  go_wp2_with fail
  refine (numbers8_any _ (namedD p 12) rfl A6 A7 _ _ c6 c7 _ HI67.out HI7.out (by omega)).mono ?_
  rintro e w8 ⟨rfl, hb8⟩
  have hB8 := below_then hB7 hb8
  have HL8 := Lib.hid (HL7.out.below hb8)
  clear hb8 hB7
  go_wp2_with fail
  refine (pasks_any p A1 c1 _ HL8.out.reads hl).mono ?_
  rintro e w9 ⟨A9, c9, rfl, hI9, hb9⟩
  have hB9 := below_then hB8 hb9
  have HI9 := Lib.hid hI9
  have HL9 := Lib.hid (HL8.out.below hb9)
  clear hI9 hb9 hB8
  go_wp2_with fail
  refine (rnamed_any p 13 A c _ (HR.out.below hB9) hl).mono ?_
  rintro e v1 ⟨A10, c10, rfl, hI10, hb10⟩
  have hB10 := below_then hB9 hb10
  have HI10 := Lib.hid hI10
  have HI910 := Lib.hid (HI9.out.below hb10)
  have HL10 := Lib.hid (HL9.out.below hb10)
  clear hI10 hb10 hB9
  go_wp2_with fail
  refine (numbers8_any _ (namedD p 13) rfl A9 A10 _ _ c9 c10 _ HI910.out HI10.out (by omega)).mono ?_
  rintro e v2 ⟨rfl, hb11⟩
  have hB11 := below_then hB10 hb11
  have HL11 := Lib.hid (HL10.out.below hb11)
  clear hb11 hB10
  go_wp2_with fail
  refine (pkept_any p A1 A _ c1 c _ HL11.out (HR.out.below hB11) (by omega)).mono ?_
  rintro e v3 ⟨rfl, hb12⟩
  have hB12 := below_then hB11 hb12
  clear hb12 hB11
  go_wp2_with fail
  refine (awake8_any _ (Utf8Tabs_below HT.out hB12)).mono ?_
  rintro e v4 ⟨rfl, hb13⟩
  go_wp2
  go_ret
  exact ⟨rfl, below_then hB12 hb13⟩
theorem patternRights_row (A : Option Addr) (c : Nat) (p : List CellD) (n : Int) (w : World) (hT : Tabs w) (hc : p.length ≤ c) (hr : Reads w A p) (hs : ∀ j (h : j < p.length), (p[j]).text.size ≤ 9223372036854775807) (hy : p.length * 32 ≤ 140737488351232) (hn : (Lit.int .i64 n).wf = true) :
    Calls Tryd.prog 13 #[.slice A p.length c, .int .i64 n] w fun e w' => e = .returned (.bool true) ∧ Below w.heap.size w w' :=
  patternRights_any p n A c w hr ⟨hy, hs⟩ hc (by simp [Lit.wf, IntKind.min, IntKind.max] at hn; simp [IntKind.signed, IntKind.bits] at hn; omega) hT
end Go.Proofs.YtefpolgflimlgaaDoor.Tm
