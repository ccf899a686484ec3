/- Layer 9's known; the law GuardHolds. -/
import Derived.Test.YtefpolgflimlgaaDoorHolds
import Derived.Test.YtefpolgflimlgaaDoorGdB
import Derived.Test.YtefpolgflimlgaaDoorMid
namespace Go.Proofs.YtefpolgflimlgaaDoor.Tm
open Go.RowKit
set_option linter.unusedVariables false
set_option linter.unusedSimpArgs false

def kT1 : TestD := ⟨5, ⟨1, 0, noText⟩, ⟨3, 5, noText⟩⟩
def kT2 : TestD := ⟨8, ⟨1, 0, noText⟩, noArg⟩
theorem noText_empty : noText.toList.isEmpty = true := by simp [noText, ByteArray.toList_eq]
theorem kx_regs : regsE [[intC 6]] = 0 := by
  unfold regsE
  rw [right_single (cell_int 6) rfl, if_neg (by simp)]
  rfl
theorem arg_x0 : argB ⟨1, 0, noText⟩ = true := by rw [argB1 rfl]; simp [noText_empty]
theorem arg_i5 : argB ⟨3, 5, noText⟩ = true := by rw [argB3 rfl]; exact noText_empty
theorem k9_1 : holdsE [kT1] [[intC 6]] = (true, 0) := by
  have t : testB kT1 = true := by simp [testB, kT1, opB, arg_x0, arg_i5]
  have g : guardE [kT1] = 0 := by simp [guardE, t]
  rw [holds_a g (by simp) kx_regs]
  have e1 : valueD kT1.a [[intC 6]] = [intC 6] := rfl
  have e2 : valueD kT1.b [[intC 6]] = [intC 5] := rfl
  simp [hold_s (x := [[intC 6]]) (t := kT1) (by rw [e1]; simp) (fun _ => by rw [e2]; simp), e1, e2]
  rfl
theorem k9_2 : holdsE [kT2] [[intC 6]] = (false, 0) := by
  have t : testB kT2 = true := by simp [testB, kT2, opB, arg_x0]
  have g : guardE [kT2] = 0 := by simp [guardE, t]
  rw [holds_a g (by simp) kx_regs]
  have e1 : valueD kT2.a [[intC 6]] = [intC 6] := rfl
  simp [hold_s (x := [[intC 6]]) (t := kT2) (by rw [e1]; simp) (fun o => absurd o (by decide)), e1]
  rfl
theorem kfine (t : TestD) (h : t.a.text.size ≤ 9223372036854775807 ∧ t.b.text.size ≤ 9223372036854775807) : FineT [t] := ⟨by simp, fun j hj => by
  have : j = 0 := by simpa using hj
  subst this
  exact h⟩
set_option maxRecDepth 100000 in
set_option maxHeartbeats 2000000 in
theorem known9_any (w : World) (hT : Tabs w) : Calls Tryd.prog 45 #[] w fun e w' => e = .returned (.bool true) ∧ Below w.heap.size w w' := by
  have HT := Lib.hid hT
  clear hT
  have hfx : Fine2 [[intC 6]] := one_fine (fine_one (by decide))
  have HFX := Lib.hid hfx
  clear hfx
  go_enter Tryd.func45, Tryd.ntmps45
  have hx0 : Reads2 ((w.alloc (.cells #[.int .i64 1, .int .i64 6, .string ⟨#[]⟩] 32)).alloc (.cells #[.slice (some ⟨w.heap.size, 0, none⟩) 1 1] 22)) (some ⟨w.heap.size + 1, 0, none⟩) [[intC 6]] := by
    have h := slAt_new1 (t := 22) (A := some ⟨w.heap.size, 0, none⟩) (c := 1) (reads_new w (t := 32) (cs := #[.int .i64 1, .int .i64 6, .string ⟨#[]⟩]) (l := [intC 6]) rfl) (Nat.le_refl _)
    rwa [World.size_alloc] at h
  have hb0 := below_then (below_one w (.cells #[.int .i64 1, .int .i64 6, .string ⟨#[]⟩] 32)) (below_one _ (.cells #[.slice (some ⟨w.heap.size, 0, none⟩) 1 1] 22))
  have ht0 := TReads.new ((w.alloc (.cells #[.int .i64 1, .int .i64 6, .string ⟨#[]⟩] 32)).alloc (.cells #[.slice (some ⟨w.heap.size, 0, none⟩) 1 1] 22)) (t := 51) (cs := #[.int .i64 5, .int .i64 1, .int .i64 0, .string ⟨#[]⟩, .int .i64 3, .int .i64 5, .string ⟨#[]⟩]) (g := [kT1]) rfl
  rw [World.size_alloc, World.size_alloc] at ht0
  have hb1 := below_one ((w.alloc (.cells #[.int .i64 1, .int .i64 6, .string ⟨#[]⟩] 32)).alloc (.cells #[.slice (some ⟨w.heap.size, 0, none⟩) 1 1] 22)) (.cells #[.int .i64 5, .int .i64 1, .int .i64 0, .string ⟨#[]⟩, .int .i64 3, .int .i64 5, .string ⟨#[]⟩] 51)
  have HX0 := Lib.hid (hx0.below hb1)
  have HT0 := Lib.hid ht0
  have HB0 := Lib.hid (below_then hb0 hb1)
  clear hx0 hb0 ht0 hb1
  go_wp2_with fail
  refine (gHolds_any [kT1] [[intC 6]] _ _ 1 1 _ HT0.out (kfine kT1 ⟨by decide, by decide⟩) HX0.out HFX.out (by simp) (Utf8Tabs_below HT.out HB0.out)).mono ?_
  rintro e w1 ⟨rfl, hb1⟩
  rw [k9_1]
  have HB1 := Lib.hid (below_then HB0.out hb1)
  have HX1 := Lib.hid (HX0.out.below hb1)
  have ht1 := TReads.new w1 (t := 51) (cs := #[.int .i64 8, .int .i64 1, .int .i64 0, .string ⟨#[]⟩, .int .i64 0, .int .i64 0, .string ⟨#[]⟩]) (g := [kT2]) rfl
  have hb2 := below_one w1 (.cells #[.int .i64 8, .int .i64 1, .int .i64 0, .string ⟨#[]⟩, .int .i64 0, .int .i64 0, .string ⟨#[]⟩] 51)
  have HT1 := Lib.hid ht1
  have HX2 := Lib.hid (HX1.out.below hb2)
  have HB2 := Lib.hid (below_then HB1.out hb2)
  clear hb1 ht1 hb2
  go_wp2_with fail
  refine (gHolds_any [kT2] [[intC 6]] _ _ 1 1 _ HT1.out (kfine kT2 ⟨by decide, by decide⟩) HX2.out HFX.out (by simp) (Utf8Tabs_below HT.out HB2.out)).mono ?_
  rintro e w2 ⟨rfl, hb3⟩
  rw [k9_2]
  go_wp2
  go_ret
  exact ⟨rfl, below_then HB2.out hb3⟩
set_option maxRecDepth 100000 in
set_option maxHeartbeats 4000000 in
theorem guardHolds_any (g : List TestD) (x : List (List CellD)) (A B : Option Addr) (c d : Nat) (w : World) (hr : TReads w A g) (hf : FineT g) (hx : Reads2 w B x) (hfx : Fine2 x) (hl : (x.length + 1) * 24 ≤ 140737488355328) (hlg : (g.length + 1) * 72 ≤ 140737488355328) (hT : Tabs w) :
    Calls Tryd.prog 5 #[.slice A g.length c, .slice B x.length d] w fun e w' => e = .returned (.bool true) ∧ Below w.heap.size w w' := by
  have HR := Lib.hid hr
  have HF := Lib.hid hf
  have HX := Lib.hid hx
  have HFX := Lib.hid hfx
  have HT := Lib.hid hT
  have hxl : x.length ≤ 1000000000000000 := by omega
  clear hr hf hx hfx hT
  go_enter Tryd.func5, Tryd.ntmps5
  go_wp2_with fail
  refine (copied_any g A c _ HR.out hlg).mono ?_
  rintro e w1 ⟨A1, c1, rfl, hL1, hB1⟩
  have HL1 := Lib.hid hL1
  clear hL1
  go_wp2_with fail
  refine (lents_any x B d _ (HX.out.below hB1) HFX.out hl).mono ?_
  rintro e w2 ⟨B1, d1, rfl, hL2, hb2⟩
  have HL2 := Lib.hid hL2
  have hB2 := below_then hB1 hb2
  have HL1b := Lib.hid (HL1.out.below hb2)
  clear hL2 hb2 hB1
  go_wp2_with fail
  refine (gHolds_any g x A1 B1 c1 d1 _ HL1b.out.reads HF.out HL2.out.reads HFX.out hxl (Utf8Tabs_below HT.out hB2)).mono ?_
  rintro e w3 ⟨rfl, hb3⟩
  have hB3 := below_then hB2 hb3
  go_wp2_with fail
  refine (rHolds_any g x A B c d _ (HR.out.below hB3) HF.out (HX.out.below hB3) HFX.out hxl).mono ?_
  rintro e w4 ⟨rfl, hb4⟩
  have hB4 := below_then hB3 hb4
  have hc4 := below_then hb3 hb4
  generalize (holdsE g x).1 = E1
  generalize (holdsE g x).2 = E2
  go_wp2_with fail
  refine (gRight_any g A1 c1 _ (HL1b.out.below hc4).reads HF.out (Utf8Tabs_below HT.out hB4)).mono ?_
  rintro e w5 ⟨rfl, hb5⟩
  have hB5 := below_then hB4 hb5
  have hc5 := below_then hc4 hb5
  go_wp2_with fail
  refine (rRight9_any g A c _ (HR.out.below hB5) HF.out).mono ?_
  rintro e w6 ⟨rfl, hb6⟩
  have hB6 := below_then hB5 hb6
  have hc6 := below_then hc5 hb6
  generalize guardE g = E3
  go_wp2_with fail
  refine (kept9_any g A1 A w.heap.size c1 c _ (HL1b.out.below hc6) (HR.out.below hB6) hlg).mono ?_
  rintro e w7 ⟨rfl, hb7⟩
  have hB7 := below_then hB6 hb7
  have hc7 := below_then hc6 hb7
  go_wp2_with fail
  refine (keptAll_any x B1 B _ d1 d _ (HL2.out.below hc7) (HX.out.below hB7) HFX.out hl).mono ?_
  rintro e w8 ⟨rfl, hb8⟩
  have hB8 := below_then hB7 hb8
  go_wp2_with fail
  refine (known9_any _ (Utf8Tabs_below HT.out hB8)).mono ?_
  rintro e w9 ⟨rfl, hb9⟩
  go_wp2
  go_ret
  exact ⟨rfl, below_then hB8 hb9⟩
theorem guardHolds_row (A : Option Addr) (c : Nat) (g : List TestD) (B : Option Addr) (d : Nat) (x : List (List CellD)) (w : World) (hT : Tabs w) (hc : g.length ≤ c) (hr : TReads w A g) (hf : FineT g) (hd : x.length ≤ d) (hx : Reads2 w B x) (hfx : Fine2 x) (hy : x.length * 24 ≤ 140737488351232) :
    Calls Tryd.prog 5 #[.slice A g.length c, .slice B x.length d] w fun e w' => e = .returned (.bool true) ∧ Below w.heap.size w w' :=
  guardHolds_any g x A B c d w hr hf hx hfx (by omega) (by have := hf.len; omega) hT
end Go.Proofs.YtefpolgflimlgaaDoor.Tm
