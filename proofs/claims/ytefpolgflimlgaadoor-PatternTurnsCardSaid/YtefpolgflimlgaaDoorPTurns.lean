/- The law PatternTurns. -/
import Derived.Test.YtefpolgflimlgaaDoorPatT
import Derived.Test.YtefpolgflimlgaaDoorPatV
import Derived.Test.YtefpolgflimlgaaDoorMid
namespace Go.Proofs.YtefpolgflimlgaaDoor.Tm
open Go.RowKit
set_option linter.unusedVariables false
set_option linter.unusedSimpArgs false

theorem of_len (t : List CellD) : (ofTermE t).1.length ≤ 256 := by
  unfold ofTermE
  split
  · simp
  · split
    · simp
    · rename_i h; show t.length ≤ 256; omega
theorem tt_len (p : List CellD) (x : List (List CellD)) : (toTermE p x).1.length ≤ 1024 := by
  unfold toTermE
  repeat' split
  all_goals first | simp; done | (rename_i h; simp at h ⊢; omega)
theorem same_me (l : List CellD) : decide (l = l) = true := by simp
theorem row_apart {w W : World} {base n : Nat} {e : TypeId} {size : Nat} {v : Value} {xs : List Value} {row : Option Nat} (h : w.ownsRow base e size v n xs) (g : w.grownBy W row) (hb : ∀ k, row = some k → k < base) : W.ownsRow base e size v n xs :=
  h.kept g (by
    cases hv : v.ownBlock with
    | none => exact .inl rfl
    | some k =>
      right
      intro e'
      have h1 := row_base h k hv
      have h2 := hb k e'.symm
      omega)
set_option maxRecDepth 100000 in
set_option maxHeartbeats 8000000 in
theorem patternTurns_any (p q t : List CellD) (x : List (List CellD)) (A B C D : Option Addr) (c d ct cx : Nat) (w : World) (hp : Reads w A p) (hq : Reads w B q) (ht : Reads w C t) (hx : Reads2 w D x) (fp : Fine p) (fq : Fine q) (ft : Fine t) (fx : Fine2 x) (hc : p.length ≤ c) (hd : q.length ≤ d) (hlx : x.length ≤ 1000000000000000) (hT : Tabs w) :
    Calls Tryd.prog 18 #[.slice A p.length c, .slice B q.length d, .slice C t.length ct, .slice D x.length cx] w fun e w' => e = .returned (.bool true) ∧ Below w.heap.size w w' := by
  have HP := Lib.hid hp
  have HQ := Lib.hid hq
  have HC := Lib.hid ht
  have HX := Lib.hid hx
  have FP := Lib.hid fp
  have FQ := Lib.hid fq
  have FT := Lib.hid ft
  have FX := Lib.hid fx
  have HT := Lib.hid hT
  clear hp hq ht hx fp fq ft fx hT
  have lo := of_len t
  have lt := tt_len p x
  go_enter Tryd.func18, Tryd.ntmps18
  go_wp2_with fail
  refine (pcovers_any p q A B c d _ HP.out HQ.out FP.out FQ.out HT.out).mono ?_
  rintro e w1 ⟨rfl, hB1⟩
  go_wp2_with fail
  refine (rcoversE_any p q A B c d _ (HP.out.below hB1) (HQ.out.below hB1) FP.out FQ.out hc hd).mono ?_
  rintro e w2 ⟨rfl, hb2⟩
  have hB2 := below_then hB1 hb2
  generalize (coversE p q).1 = a1
  generalize (coversE p q).2 = a2
  have s1 : (a1 != a1) = false := by simp
  have s2 : (a2 != a2) = false := by simp
  clear hb2 hB1
  go_wp2_with fail
  refine (pofterm_any t C ct _ (HC.out.below hB2) FT.out (Utf8Tabs_below HT.out hB2)).mono ?_
  rintro e w3 ⟨A3, c3, rfl, hc3, hR3, hb3⟩
  have hB3 := below_then hB2 hb3
  have HR3 := Lib.hid hR3
  clear hb3 hB2 hR3
  go_wp2_with fail
  refine (rofterm_any t C ct _ (HC.out.below hB3) FT.out).mono ?_
  rintro e w4 ⟨A4, c4, rfl, hc4, hR4, hb4⟩
  have hB4 := below_then hB3 hb4
  have HR4 := Lib.hid hR4
  have HR34 := Lib.hid (HR3.out.below hb4)
  clear hb4 hB3 hR4
  go_wp2_with fail
  refine (ptoterm_any p x A D c cx _ (HP.out.below hB4) FP.out (HX.out.below hB4) FX.out hc hlx (Utf8Tabs_below HT.out hB4)).mono ?_
  rintro e w5 ⟨A5, c5, rfl, hO5, hb5⟩
  have hB5 := below_then hB4 hb5
  have HO5 := Lib.hid hO5
  have HR35 := Lib.hid (HR34.out.below hb5)
  have HR45 := Lib.hid (HR4.out.below hb5)
  clear hb5 hO5
  go_wp2_with fail
  refine (rtoterm_any p x A D c cx _ (HP.out.below hB5) FP.out (HX.out.below hB5) FX.out hc hlx).mono ?_
  rintro e w6 ⟨A6, c6, rfl, hO6, hb6⟩
  have hB6 := below_then hB5 hb6
  have HO6 := Lib.hid hO6
  have HO56 := Lib.hid (row_below HO5.out hb6)
  have L5 := Lib.hid (row_lt HO5.out)
  have HR36 := Lib.hid (HR35.out.below hb6)
  have HR46 := Lib.hid (HR45.out.below hb6)
  clear hb6 hO6 hB5
  go_wp2_with fail
  refine (pats_any _ (ofTermE t).1 rfl A3 A4 c3 c4 _ HR36.out HR46.out (by omega)).mono ?_
  rintro e w7 ⟨rfl, hb7⟩
  have hB7 := below_then hB6 hb7
  have HO67 := Lib.hid (row_below HO6.out hb7)
  have HO57 := Lib.hid (row_below HO56.out hb7)
  clear hb7 hB6
  generalize (ofTermE t).2 = a3
  have s3 : (a3 != a3) = false := by simp
  go_wp2_with fail
  refine (rsame_any A5 A6 c5 c6 _ _ _ (Reads.of_row HO57.out) (Reads.of_row HO67.out) (by omega) (by omega)).mono ?_
  rintro e w8 ⟨rfl, hb8⟩
  rw [same_me]
  have hB8 := below_then hB7 hb8
  have HO68 := Lib.hid (row_below HO67.out hb8)
  have HO58 := Lib.hid (row_below HO57.out hb8)
  clear hb8 hB7
  have s4 : ((toTermE p x).2 != (toTermE p x).2) = false := by simp
  go_wp2_with fail
  refine (ptoterm_any p x A D c cx _ (HP.out.below hB8) FP.out (HX.out.below hB8) FX.out hc hlx (Utf8Tabs_below HT.out hB8)).mono ?_
  rintro e w9 ⟨A9, c9, rfl, hO9, hb9⟩
  have hB9 := below_then hB8 hb9
  have HO9 := Lib.hid hO9
  have HO69 := Lib.hid (row_below HO68.out hb9)
  have HO59 := Lib.hid (row_below HO58.out hb9)
  have L58 := Lib.hid (row_lt HO58.out)
  have z4 := hB4.size
  have z9 := hB9.size
  clear hb9 hO9 hB8
  go_wp2_with fail
  refine (spoil_any A5 _ c5 w.heap.size _ w9 (row_mono HO59.out z4) (by omega) (by omega)).mono ?_
  rintro e wa ⟨rfl, gA⟩
  have hBa := hB9.grown gA hB9.size (fun k hk => by have := row_base HO59.out k hk; omega)
  have HO9a := Lib.hid (row_apart HO9.out gA L58.out)
  have HO6a := Lib.hid (row_apart HO69.out gA L5.out)
  clear gA
  go_wp2_with fail
  refine (rsame_any A9 A6 c9 c6 _ _ _ (Reads.of_row HO9a.out) (Reads.of_row HO6a.out) (by omega) (by omega)).mono ?_
  rintro e wb ⟨rfl, hbb⟩
  rw [same_me]
  have hBb := below_then hBa hbb
  go_wp2_with fail
  refine (awake8_any _ (Utf8Tabs_below HT.out hBb)).mono ?_
  rintro e wc ⟨rfl, hbc⟩
  go_wp2
  go_ret
  exact ⟨rfl, below_then hBb hbc⟩
theorem patternTurns_row (A : Option Addr) (c : Nat) (p : List CellD) (B : Option Addr) (d : Nat) (q : List CellD) (C : Option Addr) (ct : Nat) (t : List CellD) (D : Option Addr) (cx : Nat) (x : List (List CellD)) (w : World) (hT : Tabs w) (h1 : p.length ≤ c) (hp : Reads w A p) (s1 : ∀ j (h : j < p.length), (p[j]).text.size ≤ 9223372036854775807) (y1 : p.length * 32 ≤ 140737488351232)
    (h2 : q.length ≤ d) (hq : Reads w B q) (s2 : ∀ j (h : j < q.length), (q[j]).text.size ≤ 9223372036854775807) (y2 : q.length * 32 ≤ 140737488351232)
    (h3 : t.length ≤ ct) (ht : Reads w C t) (s3 : ∀ j (h : j < t.length), (t[j]).text.size ≤ 9223372036854775807) (y3 : t.length * 32 ≤ 140737488351232) (h5 : x.length ≤ cx) (hx : Reads2 w D x) (fx : Fine2 x) (y5 : x.length * 24 ≤ 140737488351232) :
    Calls Tryd.prog 18 #[.slice A p.length c, .slice B q.length d, .slice C t.length ct, .slice D x.length cx] w fun e w' => e = .returned (.bool true) ∧ Below w.heap.size w w' :=
  patternTurns_any p q t x A B C D c d ct cx w hp hq ht hx ⟨y1, s1⟩ ⟨y2, s2⟩ ⟨y3, s3⟩ fx h1 h2 (by omega) hT
end Go.Proofs.YtefpolgflimlgaaDoor.Tm
