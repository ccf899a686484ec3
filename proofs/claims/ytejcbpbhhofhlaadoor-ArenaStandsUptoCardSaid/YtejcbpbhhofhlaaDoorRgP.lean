/- ArenaPlays: the walk. -/
import Derived.Test.YtejcbpbhhofhlaaDoorRgO
namespace Go.Proofs.YtejcbpbhhofhlaaDoor.Tm
open Go.RowKit
set_option linter.unusedVariables false
set_option linter.unusedSimpArgs false

set_option maxHeartbeats 1000000 in
theorem new_bad (cells : Int) (w : World) (h : cells < 0 ∨ 262144 < cells) :
    Calls Tryd.prog 8 #[.int .i64 cells] w fun e w' => e = .returned (.pointer none) ∧ Below w.heap.size w w' := by
  rcases h with h | h
  · have e0 : decide (cells < 0) = true := decide_eq_true h
    go_enter Tryd.func8, Tryd.ntmps8
    go_wp2
    go_ret
    exact ⟨rfl, Below.refl _ _⟩
  · have e0 : decide (cells < 0) = false := decide_eq_false (by omega)
    have e1 : decide (262144 < cells) = true := decide_eq_true h
    have n0 : ¬ cells < 0 := by omega
    go_enter Tryd.func8, Tryd.ntmps8
    go_wp2
    go_ret
    exact ⟨rfl, Below.refl _ _⟩
theorem rf_new2 {w : World} {w1 : World} (cells : Nat) (hB : Below w.heap.size w w1) (h3 : 3 ≤ w.heap.size) : RfAt (w1.alloc (.cells #[.int .i64 (cells : Int), .slice none 0 0] 29)) (fun k => k = w1.heap.size) w1.heap.size cells [] := by
  have hs := hB.size
  refine ⟨.slice none 0 0, [], heap_new w1 _, row_nil _ _ _ _, rfl, fun i h => absurd h (Nat.not_lt_zero i), rfl, fun k hk => by simp [Value.ownBlock] at hk, fun k hk => ?_⟩
  rw [World.size_alloc, hk]
  omega
structure OpD where
  kind : Int
  T : List CellD
  ps : List PickD
  N : Int
structure OpAt (w : World) (b o : Nat) (op : OpD) (AT AP : Option Addr) (cT cP : Nat) : Prop where
  k0 : w.cell? ⟨b, o, none⟩ = some (.int .i64 op.kind)
  k1 : w.cell? ⟨b, o + 1, none⟩ = some (.slice AT op.T.length cT)
  k2 : w.cell? ⟨b, o + 2, none⟩ = some (.slice AP op.ps.length cP)
  k3 : w.cell? ⟨b, o + 3, none⟩ = some (.int .i64 op.N)
  rT : Reads w AT op.T
  rP : PReads w AP op.ps
  lT : op.T.length ≤ cT
  lP : op.ps.length ≤ cP
def ScriptAt (w : World) (A : Option Addr) (ops : List OpD) : Prop := ∀ j (h : j < ops.length), ∃ b o AT AP cT cP, A = some ⟨b, o, none⟩ ∧ OpAt w b (o + j * 4) ops[j] AT AP cT cP
structure CallOk (op : OpD) : Prop where
  wf : ∀ c ∈ op.T, WfC c
  ok : ∀ p ∈ op.ps, p.ok
  lT : op.T.length ≤ 1048576
  lP : op.ps.length ≤ 1000000
theorem OpAt.below {w W : World} {b o : Nat} {op : OpD} {AT AP : Option Addr} {cT cP : Nat} (h : OpAt w b o op AT AP cT cP) (hB : Below w.heap.size w W) : OpAt W b o op AT AP cT cP :=
  ⟨cell_below hB h.k0, cell_below hB h.k1, cell_below hB h.k2, cell_below hB h.k3, h.rT.below hB, h.rP.below hB, h.lT, h.lP⟩
theorem OpAt.into {w W : World} {b o : Nat} {op : OpD} {AT AP : Option Addr} {cT cP : Nat} {O OR : Nat → Prop} (h : OpAt w b o op AT AP cT cP) (hB : Below w.heap.size w W) (hk : CallOk op) (h1 : ∀ k, O k → w.heap.size ≤ k) (h2 : ∀ k, OR k → w.heap.size ≤ k) : OpIn W O OR op.T op.ps AT AP cT cP := by
  refine ⟨h.rT.below hB, h.rP.below hB, hk.wf, hk.ok, hk.lT, hk.lP, h.lT, h.lP, fun h0 g q e => ?_⟩
  obtain ⟨g', q', e', hc⟩ := h.rT 0 (by omega)
  rw [e] at e'
  cases e'
  have hlt : g < w.heap.size := cell_lt hc.1
  exact ⟨fun ho => by have := h1 _ ho; omega, fun ho => by have := h2 _ ho; omega⟩
structure PlayRep (w wr : World) (O OR : Nat → Prop) (ba ra room : Nat) (L : List ObjA) : Prop where
  both : Both wr O OR ba ra room L
  o1 : ∀ k, O k → w.heap.size ≤ k
  o2 : ∀ k, OR k → w.heap.size ≤ k
  base : Below w.heap.size w wr
theorem PlayRep.step {w wr w' : World} {O OR : Nat → Prop} {ba ra room : Nat} {L : List ObjA} (h : PlayRep w wr O OR ba ra room L) {k : Int} (hs : StepAny wr w' O OR ba ra room L k) : ∃ L' O' OR', PlayRep w w' O' OR' ba ra room L' ∧ (k ≠ 4 → Ext L L') := by
  obtain ⟨L', O', OR', hl, he, hc⟩ := hs
  have hz := h.base.size
  refine ⟨L', O', OR', ⟨⟨hl.ar, hl.rf, hl.oo, hc⟩, fun k hk => ?_, fun k hk => ?_, h.base.trans (hl.fr.below hz fun k hk => ?_)⟩, he⟩
  · rcases hl.a2 k hk with h' | h'
    · exact h.o1 k h'
    · omega
  · rcases hl.b2 k hk with h' | h'
    · exact h.o2 k h'
    · omega
  · rcases hk with h' | h'
    · exact h.o1 k h'
    · exact h.o2 k h'
theorem PlayRep.below {w wr w' : World} {O OR : Nat → Prop} {ba ra room : Nat} {L : List ObjA} (h : PlayRep w wr O OR ba ra room L) (hB : Below wr.heap.size wr w') : PlayRep w w' O OR ba ra room L :=
  ⟨h.both.below hB, h.o1, h.o2, below_then h.base hB⟩
set_option maxRecDepth 10000 in
set_option maxHeartbeats 8000000 in
theorem plays_any (w : World) (cells : Int) (ops : List OpD) (A : Option Addr) (cap : Nat) (hT : TabsA w) (hr : ScriptAt w A ops) (hk : ∀ op ∈ ops, CallOk op) (hl : ops.length ≤ 1048576) (hcap : ops.length ≤ cap) :
    Calls Tryd.prog 5 #[.int .i64 cells, .slice A ops.length cap] w fun e w' => e = .returned (.bool true) ∧ Below w.heap.size w w' := by
  have h3 := tabs_size hT
  by_cases hbad : cells < 0 ∨ 262144 < cells
  · have hnew := new_bad cells w hbad
    have hcase : decide (cells < 0) = true ∨ (¬ cells < 0 ∧ decide (cells < 0) = false ∧ decide (262144 < cells) = true) := by
      rcases hbad with h | h
      · exact .inl (decide_eq_true h)
      · by_cases h' : cells < 0
        · exact .inl (decide_eq_true h')
        · exact .inr ⟨h', decide_eq_false h', decide_eq_true h⟩
    have hkn := fun W (hB : Below w.heap.size w W) => known_any W (hT.below hB) (by have := hB.size; omega)
    clear hT hr hk hbad
    rcases hcase with e0 | ⟨n0, e0, e1⟩
    all_goals
      go_enter Tryd.func5, Tryd.ntmps5
      go_wp2_with fail
      refine hnew.mono ?_
      rintro e w1 ⟨rfl, hb1⟩
      have hkn1 := hkn w1 hb1
      go_wp2_with fail
      refine hkn1.mono ?_
      rintro e w2 ⟨rfl, hb2⟩
      go_wp2
      go_ret
      exact ⟨rfl, below_then hb1 hb2⟩
  · obtain ⟨room, rfl⟩ : ∃ room : Nat, cells = (room : Int) := ⟨cells.toNat, by omega⟩
    have hroom : room ≤ 262144 := by omega
    have hnew := new_any room w hroom h3
    have e0 : decide ((room : Int) < 0) = false := decide_eq_false (by omega)
    have n0 : ¬ (room : Int) < 0 := by omega
    have e1 : decide (262144 < (room : Int)) = false := decide_eq_false (by omega)
    have n1 : ¬ 262144 < (room : Int) := by omega
    have HT := Lib.hid hT
    have HR := Lib.hid hr
    have HK := Lib.hid hk
    clear hT hr hk hbad
    go_enter Tryd.func5, Tryd.ntmps5
    go_wp2_with fail
    refine hnew.mono ?_
    rintro e w1 ⟨ba, O1, rfl, hA1, hO1, hB1⟩
    have hs1 := hB1.size
    have hB12 := below_one w1 (.cells #[.int .i64 (room : Int), .slice none 0 0] 29)
    have hrep : PlayRep w (w1.alloc (.cells #[.int .i64 (room : Int), .slice none 0 0] 29)) O1 (fun k => k = w1.heap.size) ba w1.heap.size room [] :=
      ⟨⟨hA1.below hB12, rf_new2 room hB1 h3, fun k hk e => by have := (hA1.lim k hk).2; omega, fun o ho => (by cases ho)⟩, hO1, fun k e => by omega, below_then hB1 hB12⟩
    obtain ⟨ra, hra⟩ : ∃ r, w1.heap.size = r := ⟨_, rfl⟩
    obtain ⟨w2, hw2⟩ : ∃ W, w1.alloc (.cells #[.int .i64 (room : Int), .slice none 0 0] 29) = W := ⟨_, rfl⟩
    rw [hra, hw2] at hrep
    have HREP := Lib.hid hrep
    have HW2 := Lib.hid hw2
    have HRA := Lib.hid hra
    clear hnew hA1 hO1 hB1 hB12 hrep hw2 hs1 hra
    go_wp2_with fail
    rw [HW2.out, HRA.out]
    clear HW2 HRA
    go_loopw [7] (fun i wr => ∃ (j : Nat) (O OR : Nat → Prop) (L : List ObjA), j ≤ ops.length ∧ j ≤ 200 ∧ i = .int .i64 (j : Int) ∧ Hid (PlayRep w wr O OR ba ra room L)) (fun i wr => ops.length - (intOf i).toNat)
    case atStart => exact ⟨0, _, _, [], Nat.zero_le _, by omega, rfl, HREP⟩
    case round =>
      clear HREP
      obtain ⟨j, O, OR, L, hj, hj2, rfl, hP⟩ := hrel
      by_cases hlt : j < ops.length ∧ j < 200
      · obtain ⟨hlt, hlt2⟩ := hlt
        have hb2 : decide ((j : Int) < 200) = true := decide_eq_true (by omega)
        have hbl : decide ((j : Int) < (ops.length : Int)) = true := decide_eq_true (by omega)
        have hj1 : (j : Int) < (ops.length : Int) := by omega
        have hj0 : (0 : Int) ≤ (j : Int) := Int.natCast_nonneg _
        obtain ⟨b, o, AT, AP, cT, cP, rfl, hop⟩ := HR.out j hlt
        have hok := HK.out _ (List.getElem_mem hlt)
        obtain ⟨op, hopp⟩ : ∃ op, ops[j] = op := ⟨_, rfl⟩
        rw [hopp] at hop hok
        have hor := hop.below hP.out.base
        have c0 := hor.k0
        have c1 := hor.k1
        have c2 := hor.k2
        have c3 := hor.k3
        have hst := step_any wr O OR ba ra room L op.T op.ps AT AP cT cP op.N op.kind hP.out.both (HT.out.below hP.out.base) (hop.into hP.out.base hok hP.out.o1 hP.out.o2)
        clear hop hok hor hopp
        go_wp2_with fail
        refine hst.mono ?_
        rintro e w3 ⟨rfl, hs⟩
        obtain ⟨L', O', OR', hP3, _⟩ := hP.out.step hs
        have hlim := hP3.both.ar.lims
        have hll := hP3.both.ar.wf.len
        have HP3 := Lib.hid hP3
        have hus := fun W (hB : Below w3.heap.size w3 W) => used_any W O' ba room L' (hP3.both.ar.below hB)
        have hru := fun W (hB : Below w3.heap.size w3 W) => rused_any W OR' ra room (refOf L') (hP3.both.rf.below hB) (ref_cells hP3.both.ar.wf hP3.both.cells) (by rw [refOf_len]; omega) (by unfold usedR; rw [usedR_ref]; omega)
        have hrm := fun W (hB : Below w3.heap.size w3 W) => room_any W O' ba room L' (hP3.both.ar.below hB)
        have hal := fun W (hB : Below w3.heap.size w3 W) => all_any W O' ba room L' (hP3.both.ar.below hB)
        unfold usedR at hru
        rw [usedR_ref] at hru
        obtain ⟨U, hU⟩ : ∃ U, usedA L' = U := ⟨_, rfl⟩
        rw [hU] at hus hru hrm hlim hll
        have HU := Lib.hid hU
        have u0 : ((U : Int) != (U : Int)) = false := by simp
        have u1 : IntKind.i64.wrap ((room : Int) - (U : Int)) = (room : Int) - (U : Int) := by rw [IntKind.wrap_i64]; omega
        have u2 : ((room : Int) - (U : Int) != (room : Int) - (U : Int)) = false := by simp
        clear hP3 hs hst c0 c1 c2 c3 hU
        go_wp2_with fail
        refine (hus _ (Below.refl _ _)).mono ?_
        rintro e w4 ⟨rfl, hb4⟩
        go_wp2_with fail
        refine (hru _ hb4).mono ?_
        rintro e w5 ⟨rfl, hb5⟩
        have hB5 := below_then hb4 hb5
        go_wp2_with fail
        refine (hrm _ hB5).mono ?_
        rintro e w6 ⟨rfl, hb6⟩
        have hB6 := below_then hB5 hb6
        go_wp2_with fail
        refine (hru _ hB6).mono ?_
        rintro e w7 ⟨rfl, hb7⟩
        have hB7 := below_then hB6 hb7
        go_wp2_with fail
        refine (hal _ hB7).mono ?_
        rintro e w8 ⟨A8, c8, rfl, hrow, hb8⟩
        have hB8 := below_then hB7 hb8
        rw [wordsA_len]
        have hap := apart_all w8 L' A8 c8 HP3.out.both.ar.wf (by rw [HU.out]; omega) (WReads.of_row hrow)
        go_wp2_with fail
        refine hap.mono ?_
        rintro e w9 ⟨rfl, hb9⟩
        have HP9 := Lib.hid (HP3.out.below (below_then hB8 hb9))
        go_wp2
        go_roundw
        case rel => exact ⟨j + 1, O', OR', L', by omega, by omega, by go_num, HP9⟩
        case measure => simp [intOf]; omega
      · have hcase : (¬ j < ops.length ∧ decide ((j : Int) < (ops.length : Int)) = false) ∨ (j < ops.length ∧ decide ((j : Int) < (ops.length : Int)) = true ∧ ¬ j < 200 ∧ decide ((j : Int) < 200) = false) := by
          by_cases h : j < ops.length
          · exact .inr ⟨h, decide_eq_true (by omega), by omega, decide_eq_false (by omega)⟩
          · exact .inl ⟨h, decide_eq_false (by omega)⟩
        have hkn := known_any wr (HT.out.below hP.out.base) (by have := hP.out.base.size; omega)
        clear hlt
        rcases hcase with ⟨hp1, hb1⟩ | ⟨hp1, hb1, hp2, hb2⟩
        all_goals
          go_wp2_with fail
          refine hkn.mono ?_
          rintro e w9 ⟨rfl, hb9⟩
          go_wp2
          go_ret
          exact ⟨rfl, below_then hP.out.base hb9⟩
theorem plays_row (cells : Int) (A : Option Addr) (cap : Nat) (ops : List OpD) (w : World) (hT : TabsA w) (_ : (Lit.int .i64 cells).wf = true) (hcap : ops.length ≤ cap) (hr : ScriptAt w A ops) (hk : ∀ op ∈ ops, CallOk op) (hl : ops.length ≤ 1048576) :
    Calls Tryd.prog 5 #[.int .i64 cells, .slice A ops.length cap] w fun e w' => e = .returned (.bool true) ∧ Below w.heap.size w w' := plays_any w cells ops A cap hT hr hk hl hcap
end Go.Proofs.YtejcbpbhhofhlaaDoor.Tm
