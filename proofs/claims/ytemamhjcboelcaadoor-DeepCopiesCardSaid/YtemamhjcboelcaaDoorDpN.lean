/- The law's copied. -/
import Derived.Test.YtemamhjcboelcaaDoorDpB
import Derived.Test.YtemamhjcboelcaaDoorDpX
import Derived.Test.YtemamhjcboelcaaDoorDpQ
namespace Go.Proofs.YtemamhjcboelcaaDoor.Tm
open Go.RowKit
set_option linter.unusedVariables false
set_option linter.unusedSimpArgs false

theorem wr_fr0 {O : Nat → Prop} {a b : World} {A : Option Addr} {l : List Int} (h : WReads a A l) (hf : Fr O a b) (hn : l.length ≠ 0 → ∀ g o, A = some ⟨g, o, none⟩ → ¬ O g) : WReads b A l := fun j hj => (h.fr hf (hn (by omega))) j hj
/-- The block that words are read of. -/
theorem wr_lt {w : World} {A : Option Addr} {l : List Int} (h : WReads w A l) (h0 : l.length ≠ 0) : ∀ g o, A = some ⟨g, o, none⟩ → g < w.heap.size := fun g o e => by
  obtain ⟨b, o', e', hc⟩ := h 0 (by omega)
  rw [e] at e'
  cases e'
  have := cell_lt hc
  simpa using this
/-- What holds ahead of copied and behind it. -/
structure CopyIn (w : World) (O O2 : Nat → Prop) (ba room bb room2 : Nat) (L L2 : List ObjA) (l m : List Int) (A B : Option Addr) : Prop where
  a1 : ArAt w O ba room L
  a2 : ArAt w O2 bb room2 L2
  c1 : ∀ o ∈ L, WfC o.cell
  c2 : ∀ o ∈ L2, WfC o.cell
  x1 : ∀ x ∈ l, FindOk L x
  x2 : ∀ x ∈ m, FindOk L2 x
  r1 : WReads w A l
  r2 : WReads w B m
  b1 : l.length ≠ 0 → ∀ g o, A = some ⟨g, o, none⟩ → ¬ O2 g ∧ g < w.heap.size
  b2 : m.length ≠ 0 → ∀ g o, B = some ⟨g, o, none⟩ → ¬ O2 g ∧ g < w.heap.size
  l1 : l.length ≤ 200
  l2 : m.length ≤ 200
theorem CopyIn.below {w W : World} {O O2 : Nat → Prop} {ba room bb room2 : Nat} {L L2 : List ObjA} {l m : List Int} {A B : Option Addr} (h : CopyIn w O O2 ba room bb room2 L L2 l m A B) (hB : Below w.heap.size w W) : CopyIn W O O2 ba room bb room2 L L2 l m A B :=
  ⟨h.a1.below hB, h.a2.below hB, h.c1, h.c2, h.x1, h.x2, h.r1.below hB, h.r2.below hB, fun h0 g o e => ⟨(h.b1 h0 g o e).1, Nat.lt_of_lt_of_le (h.b1 h0 g o e).2 hB.size⟩, fun h0 g o e => ⟨(h.b2 h0 g o e).1, Nat.lt_of_lt_of_le (h.b2 h0 g o e).2 hB.size⟩, h.l1, h.l2⟩
/-- How the first arena stands behind what is done to the second one: another one, or the same. -/
def Moves (O O2 : Nat → Prop) (ba room bb room2 : Nat) (L L2 : List ObjA) : Prop := ∀ W W' L2', ArAt W O ba room L → Made W W' O2 bb room2 L2' → Ext L2 L2' → (∀ o ∈ L2', WfC o.cell) → ∃ O' L', ArAt W' O' ba room L' ∧ Ext L L' ∧ ∀ o ∈ L', WfC o.cell
theorem copy_now {room2 : Nat} {L L2 : List ObjA} {x : Int} {t : List CellD} {er : Int} (ha : GetAns L x t er) (hw : WfA L) (hc : ∀ o ∈ L, WfC o.cell) (hw2 : WfA L2) (hc2 : ∀ o ∈ L2, WfC o.cell) (hr : room2 ≤ 262144) (hu : usedA L2 ≤ room2) :
    Ext L2 (copyL room2 L2 t er) ∧ (∀ o ∈ copyL room2 L2 t er, WfC o.cell) ∧
    ((er ≠ 0 ∧ copyE room2 L2 t er = er ∧ copyX room2 L2 t er = 0 ∧ copyL room2 L2 t er = L2) ∨
     (er = 0 ∧ (room2 : Int) - (usedA L2 : Int) < (totalA t : Int) ∧ copyE room2 L2 t er = 30 ∧ copyX room2 L2 t er = 0 ∧ copyL room2 L2 t er = L2) ∨
     (er = 0 ∧ ¬ (room2 : Int) - (usedA L2 : Int) < (totalA t : Int) ∧ copyE room2 L2 t er = 0 ∧ usedA (copyL room2 L2 t er) = usedA L2 + totalA t ∧ (0 ≤ copyX room2 L2 t er ∧ copyX room2 L2 t er < 18446744073709551616) ∧ GetAns (copyL room2 L2 t er) (copyX room2 L2 t er) t 0 ∧ costsW (copyL room2 L2 t er) (visW (copyL room2 L2 t er) [] (copyX room2 L2 t er)) = totalA t)) := by
  have P := put_ok (room := room2) (L := L2) t hw2 hr hu
  have hcs := ha.cells hw hc
  by_cases he : er = 0
  · subst he
    obtain ⟨ht, hl⟩ := ha.facts.2.1 rfl
    have hpe := put_told hw hc ht hl room2 L2
    unfold copyE copyX copyL
    rw [if_pos rfl, if_pos rfl, if_pos rfl]
    refine ⟨P.ext, P.cells hc2 (fun c h => (hcs c h).2), .inr ?_⟩
    by_cases hf : (room2 : Int) - (usedA L2 : Int) < (totalA t : Int)
    · rw [if_pos hf] at hpe
      have hb := P.bad (by rw [hpe]; decide)
      exact .inl ⟨rfl, hf, hpe, hb.2, hb.1⟩
    · rw [if_neg hf] at hpe
      obtain ⟨p1, p2, p3, p4⟩ := P.ok hpe
      exact .inr ⟨rfl, hf, hpe, p3, p1.2, told_ans p2 p4, put_fresh hw2 hr hu hpe⟩
  · unfold copyE copyX copyL
    rw [if_neg he, if_neg he, if_neg he]
    exact ⟨Ext.refl L2, hc2, .inl ⟨he, rfl, rfl, rfl⟩⟩
set_option maxRecDepth 10000 in
set_option maxHeartbeats 8000000 in
theorem copied_any (w : World) (O O2 : Nat → Prop) (ba room bb room2 : Nat) (L L2 : List ObjA) (l m : List Int) (A B : Option Addr) (cA cB : Nat) (x : Int) (hI : CopyIn w O O2 ba room bb room2 L L2 l m A B) (hmv : Moves O O2 ba room bb room2 L L2) (hT : TabsA w) (hx : 0 ≤ x ∧ x < 18446744073709551616) :
    Calls Tryd.prog 39 #[.pointer (some ⟨ba, 0, none⟩), .slice A l.length cA, .int .u64 x, .pointer (some ⟨bb, 0, none⟩), .slice B m.length cB] w fun e w' => e = .returned (.bool true) ∧ ∃ L2', Made w w' O2 bb room2 L2' ∧ Ext L2 L2' ∧ ∀ o ∈ L2', WfC o.cell := by
  have h3 := tabs_size hT
  have hw1 := hI.a1.wf
  have hw2 := hI.a2.wf
  have hlims := hI.a2.lims
  obtain ⟨t, er, ha⟩ := get_ans hw1 x
  obtain ⟨ts, hts⟩ := terms_ex hw1 l
  obtain ⟨us, hus⟩ := terms_ex hw2 m
  obtain ⟨n1, n2, n3⟩ := copy_now (room2 := room2) ha hw1 hI.c1 hw2 hI.c2 hlims.1 hlims.2
  have hf5 := ha.facts.2.2.2.2
  have hg := getv_any w O ba room L x t er hx.1 hx.2 hI.a1 ha
  have HCE := Lib.hid (ha.cells hw1 hI.c1)
  have HI := Lib.hid hI
  have HMV := Lib.hid hmv
  have HT := Lib.hid hT
  have HTS := Lib.hid hts
  have HUS := Lib.hid hus
  have HA := Lib.hid ha
  have HEX := Lib.hid (⟨n1, n2⟩ : Ext L2 (copyL room2 L2 t er) ∧ ∀ o ∈ copyL room2 L2 t er, WfC o.cell)
  have htl : ts.length ≤ 200 := by rw [hts.len]; exact hI.l1
  have hul : us.length ≤ 200 := by rw [hus.len]; exact hI.l2
  have hl1 := hI.l1
  have hl2 := hI.l2
  clear hI hmv hT hts hus ha hw1 hw2 n1 n2
  go_enter Tryd.func39, Tryd.ntmps39
  go_wp2_with fail
  refine hg.mono ?_
  rintro e w1 ⟨⟨A1, c1, rfl, hrow1⟩, hb1⟩
  have HR1 := Lib.hid (Reads.of_row hrow1)
  have HG1 := Lib.hid (row_addr hrow1)
  have HI1 := Lib.hid (HI.out.below hb1)
  have hs1 := hb1.size
  have HB1 := Lib.hid hb1
  have ht1 := terms_any w1 O ba room L l ts A cA HI1.out.a1 HI1.out.r1 HI1.out.x1 (by omega) HTS.out
  clear hg hrow1 hb1
  go_wp2_with fail
  refine ht1.mono ?_
  rintro e w2 ⟨A2, c2, rfl, hta2, hb2⟩
  have HTA2 := Lib.hid hta2
  have HI2 := Lib.hid (HI1.out.below hb2)
  have hs2 := hb2.size
  have HB2 := Lib.hid (below_then HB1.out hb2)
  have HR2 := Lib.hid (HR1.out.below hb2)
  have ht2 := terms_any w2 O2 bb room2 L2 m us B cB HI2.out.a2 HI2.out.r2 HI2.out.x2 (by omega) HUS.out
  clear ht1 hta2 hb2
  go_wp2_with fail
  refine ht2.mono ?_
  rintro e w3 ⟨A3, c3, rfl, hta3, hb3⟩
  have HTA3 := Lib.hid hta3
  have HTA23 := Lib.hid (HTA2.out.below hb3)
  have HI3 := Lib.hid (HI2.out.below hb3)
  have hs3 := hb3.size
  have HB3 := Lib.hid (below_then HB2.out hb3)
  have HR3 := Lib.hid (HR2.out.below hb3)
  have hu3 := used_any w3 O2 bb room2 L2 HI3.out.a2
  clear ht2 hta3 hb3
  go_wp2_with fail
  refine hu3.mono ?_
  rintro e w4 ⟨rfl, hb4⟩
  have HTA34 := Lib.hid (HTA3.out.below hb4)
  have HTA24 := Lib.hid (HTA23.out.below hb4)
  have HI4 := Lib.hid (HI3.out.below hb4)
  have hs4 := hb4.size
  have HB4 := Lib.hid (below_then HB3.out hb4)
  have HR4 := Lib.hid (HR3.out.below hb4)
  have hr4 := room_any w4 O2 bb room2 L2 HI4.out.a2
  clear hu3 hb4
  go_wp2_with fail
  refine hr4.mono ?_
  rintro e w5 ⟨rfl, hb5⟩
  have HTA35 := Lib.hid (HTA34.out.below hb5)
  have HTA25 := Lib.hid (HTA24.out.below hb5)
  have HI5 := Lib.hid (HI4.out.below hb5)
  have hs5 := hb5.size
  have HB5 := Lib.hid (below_then HB4.out hb5)
  have HR5 := Lib.hid (HR4.out.below hb5)
  have hcp := copy_any w5 O O2 ba room bb room2 L L2 x t er hx.1 hx.2 HI5.out.a1 HI5.out.a2 (HT.out.below HB5.out) HI5.out.c1 HA.out
  obtain ⟨X, hX⟩ : ∃ X, copyX room2 L2 t er = X := ⟨_, rfl⟩
  obtain ⟨E, hE⟩ : ∃ E, copyE room2 L2 t er = E := ⟨_, rfl⟩
  obtain ⟨L3, hL3⟩ : ∃ L3, copyL room2 L2 t er = L3 := ⟨_, rfl⟩
  rw [hX, hE, hL3] at hcp n3
  rw [hL3] at HEX
  clear hr4 hb5 hX hE hL3 HTA2 HTA3 HTA23 HTA34 HTA24
  go_wp2_with fail
  refine hcp.mono ?_
  rintro e w6 ⟨rfl, hM6⟩
  have hf6 := made_fr hM6
  have hs6 := hf6.size
  have hO2w : ∀ k, O2 k → k < w.heap.size := fun k hk => (HI.out.a2.lim k hk).2
  have HTA36 := Lib.hid (HTA35.out.fr hf6 (fun k hk => by have := hO2w k hk; omega))
  have HTA26 := Lib.hid (HTA25.out.fr hf6 (fun k hk => by have := hO2w k hk; omega))
  have HR6 := Lib.hid (HR5.out.fr hf6 (fun g o e ho => by have := (HG1.out g o e).1; have := hO2w g ho; omega))
  have HM := Lib.hid (Made.pre HB5.out hM6)
  have HT6 := Lib.hid ((HT.out.below HB5.out).fr hf6 (fun k hk => (HI.out.a2.lim k hk).1))
  have hr16 := wr_fr0 HI5.out.r1 hf6 (fun h0 g o e => (HI5.out.b1 h0 g o e).1)
  have hr26 := wr_fr0 HI5.out.r2 hf6 (fun h0 g o e => (HI5.out.b2 h0 g o e).1)
  have HR16 := Lib.hid hr16
  have HR26 := Lib.hid hr26
  obtain ⟨O6, L6, hA6, hE6, _⟩ := HMV.out w5 w6 L3 HI5.out.a1 hM6 HEX.out.1 HEX.out.2
  obtain ⟨O62, hA62, _, hO62, _⟩ := hM6
  have HA6 := Lib.hid hA6
  have HA62 := Lib.hid hA62
  have HTS6 := Lib.hid (HTS.out.ext hE6 HI.out.x1)
  have HUS6 := Lib.hid (HUS.out.ext HEX.out.1 HI.out.x2)
  have HX16 := Lib.hid (show ∀ x ∈ l, FindOk L6 x from fun x hx => (HI.out.x1 x hx).ext hE6)
  have HX26 := Lib.hid (show ∀ x ∈ m, FindOk L3 x from fun x hx => (HI.out.x2 x hx).ext HEX.out.1)
  have hu6 := fun W (hB : Below w6.heap.size w6 W) => used_any W O62 bb room2 L3 (hA62.below hB)
  have HSM1 := Lib.hid HTS.out.small
  have HSM2 := Lib.hid HUS.out.small
  clear hcp hf6 hr16 hr26 hA6 hE6 hA62 hO62 HTA35 HTA25 HI1 HI2 HI3 HI4
  obtain ⟨U, hU⟩ : ∃ U, usedA L2 = U := ⟨_, rfl⟩
  rw [hU] at n3 hlims ⊢
  obtain ⟨U3, hU3⟩ : ∃ U3, usedA L3 = U3 := ⟨_, rfl⟩
  rw [hU3] at hu6
  have htl1 := tot_le (fun c hc => (HCE.out c hc).1)
  go_upto_block 0 with (fail)
  go_cut [] (fun wx => Hid (Below w6.heap.size w6 wx))
  case first =>
    rcases n3 with ⟨he, e1, rfl, e3⟩ | ⟨rfl, hf, rfl, rfl, e3⟩ | ⟨rfl, hf, rfl, e4, e5, e6, e7⟩
    · have hUU : U3 = U := by rw [← hU3, ← hU, e3]
      subst hUU
      obtain rfl : er = E := e1.symm
      have g1 : (er != 0) = true := by rw [bne_iff_ne]; exact he
      have g2 : (er != er) = false := by simp
      have g3 : ((U3 : Int) != (U3 : Int)) = false := by simp
      have hu := hu6 w6 (Below.refl _ _)
      clear he e3 hU hU3 hu6
      go_wp2_with fail
      refine hu.mono ?_
      rintro e w7 ⟨rfl, hb7⟩
      have HB7 := Lib.hid hb7
      clear hu hb7
      go_wp2
      go_meet
      exact HB7
    · have hUU : U3 = U := by rw [← hU3, ← hU, e3]
      subst hUU
      have g3 : ((U3 : Int) != (U3 : Int)) = false := by simp
      have g4 : decide ((room2 : Int) - (U3 : Int) < (totalA t : Int)) = true := decide_eq_true (by omega)
      have hrc := rcells_any w6 t A1 c1 HR6.out HCE.out hf5
      have HU6 := Lib.hid hu6
      clear e3 hU hU3 hu6
      go_wp2_with fail
      refine hrc.mono ?_
      rintro e w7 ⟨rfl, hb7⟩
      have HB7 := Lib.hid hb7
      have hu := HU6.out w7 hb7
      clear hrc hb7
      go_wp2_with fail
      refine hu.mono ?_
      rintro e w8 ⟨rfl, hb8⟩
      have HB8 := Lib.hid (below_then HB7.out hb8)
      clear hu hb8
      go_wp2
      go_meet
      exact HB8
    · have g4 : decide ((room2 : Int) - (U : Int) < (totalA t : Int)) = false := decide_eq_false (by omega)
      have hrc := fun W (hB : Below w6.heap.size w6 W) => rcells_any W t A1 c1 (HR6.out.below hB) HCE.out hf5
      have HRC := Lib.hid hrc
      have HU6 := Lib.hid hu6
      have hU4 : U3 = U + totalA t := by rw [← hU3, e4]
      have hgt := fun W (hB : Below w6.heap.size w6 W) => getv_any W O62 bb room2 L3 X t 0 e5.1 e5.2 (HA62.out.below hB) e6
      have HGT := Lib.hid hgt
      have hsh := fun W (hB : Below w6.heap.size w6 W) => shared_any W O62 bb room2 L3 X t 0 e5.1 e5.2 (HA62.out.below hB) (HT6.out.below hB) HEX.out.2 e6
      rw [e7] at hsh
      simp only [if_true, Int.sub_self] at hsh
      have HSH := Lib.hid hsh
      have hr1 := hrc w6 (Below.refl _ _)
      have hwr : IntKind.i64.wrap ((U : Int) + (totalA t : Int)) = (U : Int) + (totalA t : Int) := by rw [IntKind.wrap_i64]; omega
      have g5 : ((U3 : Int) != (U : Int) + (totalA t : Int)) = false := by rw [bne_eq_false_iff_eq, hU4]; omega
      clear e4 e5 e6 e7 hrc hu6 hgt hsh hU hU3
      go_wp2_with fail
      refine hr1.mono ?_
      rintro e w7 ⟨rfl, hb7⟩
      have hg7 := HGT.out w7 hb7
      clear hr1
      go_wp2_with fail
      refine hg7.mono ?_
      rintro e w8 ⟨⟨A8, c8, rfl, hrow8⟩, hb8⟩
      have HB8 := Lib.hid (below_then hb7 hb8)
      have hsm := rsame_any A8 A1 c8 c1 t t w8 (Reads.of_row hrow8) (HR6.out.below HB8.out) (by omega) (by omega)
      rw [show decide (t = t) = true by simp] at hsm
      clear hg7 hrow8 hb7 hb8
      go_wp2_with fail
      refine hsm.mono ?_
      rintro e w9 ⟨rfl, hb9⟩
      have HB9 := Lib.hid (below_then HB8.out hb9)
      have hu := HU6.out w9 HB9.out
      clear hsm hb9
      go_wp2_with fail
      refine hu.mono ?_
      rintro e w10 ⟨rfl, hb10⟩
      have HB10 := Lib.hid (below_then HB9.out hb10)
      have hr10 := HRC.out w10 HB10.out
      clear hu hb10
      go_wp2_with fail
      refine hr10.mono ?_
      rintro e w11 ⟨rfl, hb11⟩
      have HB11 := Lib.hid (below_then HB10.out hb11)
      have hs11 := HSH.out w11 HB11.out
      clear hr10 hb11
      go_wp2_with fail
      refine hs11.mono ?_
      rintro e w12 ⟨rfl, hb12⟩
      have HB12 := Lib.hid (below_then HB11.out hb12)
      clear hs11 hb12
      go_wp2
      go_meet
      exact HB12
  case rest =>
    have HBC := hcut
    clear n3 hu6 hU hU3
    have ht7 := terms_any wc O6 ba room L6 l ts A cA (HA6.out.below HBC.out) (HR16.out.below HBC.out) HX16.out (by omega) HTS6.out
    go_wp2_with fail
    refine ht7.mono ?_
    rintro e w13 ⟨A13, c13, rfl, hta13, hb13⟩
    have HB13 := Lib.hid (below_then HBC.out hb13)
    have hsm := sameAll_any ts.length ts rfl A13 A2 c13 c2 w13 hta13.reads (HTA26.out.below HB13.out).reads (fun t ht => by have := HSM1.out t ht; omega) (by omega)
    clear ht7 hta13 hb13
    go_wp2_with fail
    refine hsm.mono ?_
    rintro e w14 ⟨rfl, hb14⟩
    have HB14 := Lib.hid (below_then HB13.out hb14)
    have ht8 := terms_any w14 O62 bb room2 L3 m us B cB (HA62.out.below HB14.out) (HR26.out.below HB14.out) HX26.out (by omega) HUS6.out
    clear hsm hb14
    go_wp2_with fail
    refine ht8.mono ?_
    rintro e w15 ⟨A15, c15, rfl, hta15, hb15⟩
    have HB15 := Lib.hid (below_then HB14.out hb15)
    have hsm := sameAll_any us.length us rfl A15 A3 c15 c3 w15 hta15.reads (HTA36.out.below HB15.out).reads (fun t ht => by have := HSM2.out t ht; omega) (by omega)
    clear ht8 hta15 hb15
    go_wp2_with fail
    refine hsm.mono ?_
    rintro e w16 ⟨rfl, hb16⟩
    go_wp2
    go_ret
    refine ⟨rfl, L3, ?_, HEX.out.1, HEX.out.2⟩
    obtain ⟨O', a1, a2, a3, a4⟩ := HM.out
    have hB := below_then HB15.out hb16
    exact ⟨O', a1.below hB, a2, a3, fr_below a4 hB⟩
end Go.Proofs.YtemamhjcboelcaaDoor.Tm
