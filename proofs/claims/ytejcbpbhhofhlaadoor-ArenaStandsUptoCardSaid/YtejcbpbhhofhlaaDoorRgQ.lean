/- ArenaStands: the walk. -/
import Derived.Test.YtejcbpbhhofhlaaDoorRgP
namespace Go.Proofs.YtejcbpbhhofhlaaDoor.Tm
open Go.RowKit
set_option linter.unusedVariables false
set_option linter.unusedSimpArgs false

theorem stands_init {w w1 w2 w4 : World} {O1 : Nat → Prop} {ba : Nat} {L : List ObjA} (hB1 : Below w.heap.size w w1) (h1 : ∀ k, O1 k → w.heap.size ≤ k) (hM : Made w1 w2 O1 ba 2000 L) (hR : RMade (w2.alloc (.cells #[.int .i64 2000, .slice none 0 0] 29)) w4 (fun k => k = w2.heap.size) NoX w2.heap.size 2000 (refOf L)) (hc : ∀ o ∈ L, WfC o.cell) :
    ∃ O OR, PlayRep w w4 O OR ba w2.heap.size 2000 L := by
  obtain ⟨O2, m1, m2, m3, m4⟩ := hM
  obtain ⟨R2, r1, r2, r3, r4⟩ := hR
  have hs1 := hB1.size
  have hs2 := m4.size
  have hb3 := below_one w2 (.cells #[.int .i64 2000, .slice none 0 0] 29)
  have hs3 : (w2.alloc (.cells #[.int .i64 2000, .slice none 0 0] 29)).heap.size = w2.heap.size + 1 := World.size_alloc _ _
  have ho : ∀ k, O2 k → k < w2.heap.size := fun k hk => (m1.lim k hk).2
  have hr : ∀ k, R2 k → w2.heap.size ≤ k := fun k hk => by
    rcases r3 k hk with h | h | h
    · omega
    · exact absurd h id
    · omega
  have hBw : Below w.heap.size w w2 := hB1.trans (m4.below hs1 h1)
  have hBw3 := below_then hBw hb3
  refine ⟨O2, R2, ⟨(m1.below hb3).fr r4 (fun k hk e => by have := ho k hk; omega), r1, fun k hk h => by have := ho k hk; have := hr k h; omega, hc⟩, fun k hk => ?_, fun k hk => by have := hr k hk; omega, hBw3.trans (r4.below (by omega) fun k hk => by omega)⟩
  rcases m3 k hk with h | h
  · exact h1 k h
  · omega
set_option maxRecDepth 10000 in
set_option maxHeartbeats 8000000 in
theorem stands_any (w : World) (t : List CellD) (At : Option Addr) (ct : Nat) (ops : List OpD) (A : Option Addr) (cap : Nat) (hT : TabsA w) (ht : Reads w At t) (hct : t.length ≤ ct) (hwt : ∀ c ∈ t, WfC c) (hlt : t.length ≤ 1048576) (hr : ScriptAt w A ops) (hk : ∀ op ∈ ops, CallOk op) (hl : ops.length ≤ 1048576) (hcap : ops.length ≤ cap) :
    Calls Tryd.prog 6 #[.slice At t.length ct, .slice A ops.length cap] w fun e w' => e = .returned (.bool true) ∧ Below w.heap.size w w' := by
  have h3 := tabs_size hT
  have hnew := new_any 2000 w (by omega) h3
  have HT := Lib.hid hT
  have HR := Lib.hid hr
  have HK := Lib.hid hk
  have HTT := Lib.hid ht
  have HWT := Lib.hid hwt
  have hAt : Hid (t.length ≠ 0 → ∀ g o, At = some ⟨g, o, none⟩ → g < w.heap.size) := Lib.hid (fun h0 g o e => by
    obtain ⟨g', q', e', hc⟩ := ht 0 (by omega)
    rw [e] at e'
    cases e'
    exact cell_lt hc.1)
  clear hT hr hk ht hwt
  go_enter Tryd.func6, Tryd.ntmps6
  go_wp2_with fail
  refine hnew.mono ?_
  rintro e w1 ⟨ba, O1, rfl, hA1, hO1, hB1⟩
  have hput := put_any w1 O1 ba 2000 [] t At ct hA1 (HT.out.below hB1) (HTT.out.below hB1) (fun h0 g o e ho => by have := hAt.out h0 g o e; have := hO1 g ho; omega) (fun j hj => HWT.out _ (List.getElem_mem hj)) (by omega)
  have hbp := both_put (room := 2000) (l := []) (t := t) WfA.nil (by omega) (by simp [usedA])
  obtain ⟨E, hE⟩ : ∃ E, putE 2000 [] t = E := ⟨_, rfl⟩
  obtain ⟨X, hX⟩ : ∃ X, putX 2000 [] t = X := ⟨_, rfl⟩
  obtain ⟨L1, hL1⟩ : ∃ L1, putL 2000 [] t = L1 := ⟨_, rfl⟩
  rw [hE, hX, hL1] at hput
  have HBP := Lib.hid hbp
  have HEX := Lib.hid (⟨hE, hX, hL1⟩ : putE 2000 [] t = E ∧ putX 2000 [] t = X ∧ putL 2000 [] t = L1)
  have HA1 := Lib.hid hA1
  have HO1 := Lib.hid hO1
  have HB1 := Lib.hid hB1
  have hs1 := hB1.size
  clear hnew hbp hE hX hL1 hA1 hO1 hB1
  go_wp2_with fail
  refine hput.mono ?_
  rintro e w2 ⟨rfl, hM⟩
  have hB2 : Below w.heap.size w w2 := HB1.out.trans ((made_fr hM).below hs1 HO1.out)
  have HB2 := Lib.hid hB2
  by_cases hE0 : E = 0
  · subst hE0
    obtain ⟨k1, k2, k3, k4, k5⟩ := HBP.out.ok HEX.out.1
    rw [HEX.out.2.2] at k1 k2
    rw [HEX.out.2.1] at k1 k2
    have hcs := HBP.out.cells (fun o ho => (by cases ho)) HWT.out
    have hrr := HBP.out.r
    have hre := HBP.out.e
    rw [HEX.out.2.2] at hcs hrr
    rw [HEX.out.1] at hre
    have hb3 := below_one w2 (.cells #[.int .i64 2000, .slice none 0 0] 29)
    have hB3 := below_then hB2 hb3
    have hs2 := hB2.size
    have hrp := rput_any _ (fun k => k = w2.heap.size) w2.heap.size 2000 (refOf []) t At ct (rf_new2 2000 hB2 h3) (fun o ho => (by cases ho)) (by simp [refOf]) (by simp [refOf, usedR, totalA]) (by omega) (HTT.out.below hB3) hct (fun h0 g o e hg => by have := hAt.out h0 g o e; omega) (fun j hj => HWT.out _ (List.getElem_mem hj)) (by omega)
    rw [hre, hrr] at hrp
    have HM := Lib.hid hM
    have HCS := Lib.hid hcs
    have HTL := Lib.hid (⟨k1, k2⟩ : FindOk L1 X ∧ Tells L1 [X] t)
    obtain ⟨x0, x1⟩ := k1.2
    obtain ⟨v, hv⟩ : ∃ v, (rputV 2000 (refOf []) t).agg = v := ⟨_, rfl⟩
    rw [hv] at hrp
    clear hv hcs hrr hre hb3 hB3 k1 k2 k3 k5 hM hput
    go_wp2_with fail
    refine hrp.mono ?_
    rintro e w4 ⟨rfl, hRm⟩
    obtain ⟨O, OR, hP0⟩ := stands_init HB1.out HO1.out HM.out hRm HCS.out
    have HP0 := Lib.hid hP0
    obtain ⟨ra, hra⟩ : ∃ r, w2.heap.size = r := ⟨_, rfl⟩
    rw [hra] at HP0 ⊢
    clear hra hP0 hRm hrp hs2
    go_wp2_with fail
    go_loopw [9] (fun i wr => ∃ (j : Nat) (O OR : Nat → Prop) (L : List ObjA), j ≤ ops.length ∧ j ≤ 50 ∧ i = .int .i64 (j : Int) ∧ Hid (PlayRep w wr O OR ba ra 2000 L) ∧ Hid (Tells L [X] t)) (fun i wr => ops.length - (intOf i).toNat)
    case atStart => exact ⟨0, _, _, L1, Nat.zero_le _, by omega, rfl, HP0, Lib.hid HTL.out.2⟩
    case round =>
      clear HP0
      obtain ⟨j, O, OR, L, hj, hj2, rfl, hP, hTl⟩ := hrel
      by_cases hlt : j < ops.length ∧ j < 50
      · obtain ⟨hlt, hlt2⟩ := hlt
        have hb2 : decide ((j : Int) < 50) = true := decide_eq_true (by omega)
        have hbl : decide ((j : Int) < (ops.length : Int)) = true := decide_eq_true (by omega)
        have hj1 : (j : Int) < (ops.length : Int) := by omega
        have hj0 : (0 : Int) ≤ (j : Int) := Int.natCast_nonneg _
        obtain ⟨b, o, AT, AP, cT, cP, rfl, hop⟩ := HR.out j hlt
        have hok := HK.out _ (List.getElem_mem hlt)
        obtain ⟨op, hopp⟩ : ∃ op, ops[j] = op := ⟨_, rfl⟩
        rw [hopp] at hop hok
        have hor := hop.below hP.out.base
        have c0 := hor.k0
        have c1 := hor.k1
        have c2 := hor.k2
        have c3 := hor.k3
        by_cases h4 : op.kind = 4
        · have h4b : (op.kind == 4) = true := by rw [h4]; rfl
          clear h4 hor hopp
          go_wp2_with fail
          go_roundw
          case rel => exact ⟨j + 1, O, OR, L, by omega, by omega, by go_num, hP, hTl⟩
          case measure => simp [intOf]; omega
        · have h4b : (op.kind == 4) = false := beq_eq_false_iff_ne.2 h4
          have hst := step_any wr O OR ba ra 2000 L op.T op.ps AT AP cT cP op.N op.kind hP.out.both (HT.out.below hP.out.base) (hop.into hP.out.base hok hP.out.o1 hP.out.o2)
          have H4 := Lib.hid h4
          clear hop hok hor hopp h4
          go_wp2_with fail
          refine hst.mono ?_
          rintro e w5 ⟨rfl, hs⟩
          obtain ⟨L', O', OR', hP3, hex⟩ := hP.out.step hs
          have hT3 := hTl.out.ext (hex H4.out)
          have hgt := get_fine w5 O' ba 2000 L' X t x0 x1 hP3.both.ar hT3 k4
          have HP3 := Lib.hid hP3
          have HT3 := Lib.hid hT3
          clear hP3 hT3 hs hst c0 c1 c2 c3 hex
          go_wp2_with fail
          refine hgt.mono ?_
          rintro e w6 ⟨⟨A6, c6, rfl, hrow⟩, hb6⟩
          have hP6 := HP3.out.below hb6
          have hsm := rsame_any A6 At c6 ct t t w6 (Reads.of_row hrow) (HTT.out.below hP6.base) (by omega) (by omega)
          rw [show decide (t = t) = true by simp] at hsm
          have HP6 := Lib.hid hP6
          clear hP6 hb6 hrow hgt
          go_wp2_with fail
          refine hsm.mono ?_
          rintro e w7 ⟨rfl, hb7⟩
          have HP7 := Lib.hid (HP6.out.below hb7)
          go_wp2
          go_roundw
          case rel => exact ⟨j + 1, O', OR', L', by omega, by omega, by go_num, HP7, HT3⟩
          case measure => simp [intOf]; omega
      · have hcase : (¬ j < ops.length ∧ decide ((j : Int) < (ops.length : Int)) = false) ∨ (j < ops.length ∧ decide ((j : Int) < (ops.length : Int)) = true ∧ ¬ j < 50 ∧ decide ((j : Int) < 50) = false) := by
          by_cases h : j < ops.length
          · exact .inr ⟨h, decide_eq_true (by omega), by omega, decide_eq_false (by omega)⟩
          · exact .inl ⟨h, decide_eq_false (by omega)⟩
        have hcl := clear_any wr O ba 2000 L hP.out.both.ar
        clear hlt
        rcases hcase with ⟨hp1, hb1⟩ | ⟨hp1, hb1, hp2, hb2⟩
        all_goals
          go_wp2_with fail
          refine hcl.mono ?_
          rintro e w5 ⟨⟨v, rfl⟩, hM⟩
          have hB5 : Below w.heap.size w w5 := hP.out.base.trans ((made_fr hM).below hP.out.base.size hP.out.o1)
          have HB5 := Lib.hid hB5
          obtain ⟨O2, m1, m2, m3, m4⟩ := hM
          have hal := all_any w5 O2 ba 2000 [] m1
          have hus := fun W (hB : Below w5.heap.size w5 W) => used_any W O2 ba 2000 [] (m1.below hB)
          have hrm := fun W (hB : Below w5.heap.size w5 W) => room_any W O2 ba 2000 [] (m1.below hB)
          have hkn := fun W (hB : Below w5.heap.size w5 W) => known_any W (HT.out.below (below_then hB5 hB)) (by have := (below_then hB5 hB).size; omega)
          rw [show usedA [] = 0 from rfl] at hus hrm
          clear m1 m2 m3 m4 hcl hB5
          go_wp2_with fail
          refine hal.mono ?_
          rintro e w6 ⟨A6, c6, rfl, hrow, hb6⟩
          rw [wordsA_len]
          go_wp2_with fail
          refine (hus _ hb6).mono ?_
          rintro e w7 ⟨rfl, hb7⟩
          have hB7 := below_then hb6 hb7
          go_wp2_with fail
          refine (hrm _ hB7).mono ?_
          rintro e w8 ⟨rfl, hb8⟩
          have hB8 := below_then hB7 hb8
          go_wp2_with fail
          refine (hkn _ hB8).mono ?_
          rintro e w9 ⟨rfl, hb9⟩
          have HF := Lib.hid (below_then HB5.out (below_then hB8 hb9))
          go_wp2
          go_ret
          exact ⟨rfl, HF.out⟩
  · have hEb : (E != 0) = true := by rw [bne_iff_ne]; exact hE0
    have hL0 : L1 = [] := by rw [← HEX.out.2.2]; exact HBP.out.bad (by rw [HEX.out.1]; exact hE0)
    subst hL0
    obtain ⟨O2, m1, m2, m3, m4⟩ := hM
    have hal := all_any w2 O2 ba 2000 [] m1
    have hus := fun W (hB : Below w2.heap.size w2 W) => used_any W O2 ba 2000 [] (m1.below hB)
    have hkn := fun W (hB : Below w2.heap.size w2 W) => known_any W (HT.out.below (below_then hB2 hB)) (by have := (below_then hB2 hB).size; omega)
    rw [show usedA [] = 0 from rfl] at hus
    clear hE0 m1 m2 m3 m4 hput
    go_wp2_with fail
    refine hal.mono ?_
    rintro e w3 ⟨A3, c3, rfl, hrow, hb3⟩
    rw [wordsA_len]
    go_wp2_with fail
    refine (hus _ hb3).mono ?_
    rintro e w4 ⟨rfl, hb4⟩
    have hB4 := below_then hb3 hb4
    go_wp2_with fail
    refine (hkn _ hB4).mono ?_
    rintro e w5 ⟨rfl, hb5⟩
    have HF := Lib.hid (below_then HB2.out (below_then hB4 hb5))
    go_wp2
    go_ret
    exact ⟨rfl, HF.out⟩
theorem stands_row (At : Option Addr) (ct : Nat) (t : List CellD) (A : Option Addr) (cap : Nat) (ops : List OpD) (w : World) (hT : TabsA w) (hct : t.length ≤ ct) (ht : Reads w At t) (hwt : ∀ j (h : j < t.length), WfC t[j]) (hlt : t.length ≤ 1048576) (hcap : ops.length ≤ cap) (hr : ScriptAt w A ops) (hk : ∀ op ∈ ops, CallOk op) (hl : ops.length ≤ 1048576) :
    Calls Tryd.prog 6 #[.slice At t.length ct, .slice A ops.length cap] w fun e w' => e = .returned (.bool true) ∧ Below w.heap.size w w' :=
  stands_any w t At ct ops A cap hT ht hct (fun c hc => by
    obtain ⟨j, hj, rfl⟩ := List.mem_iff_getElem.1 hc
    exact hwt j hj) hlt hr hk hl hcap
end Go.Proofs.YtejcbpbhhofhlaaDoor.Tm
