/- Layer 3's reference: Get, Part. -/
import Derived.Test.YtejcbpbhhofhlaaDoorRgE
import Derived.Test.YtejcbpbhhofhlaaDoorRgC
namespace Go.Proofs.YtejcbpbhhofhlaaDoor.Tm
open Go.RowKit
set_option linter.unusedVariables false
set_option linter.unusedSimpArgs false

def IsRGet (w w' : World) (t : List CellD) (e : Ending) : Prop :=
  if t.length ≤ 1024 then ∃ A c, e = .returned (.tuple #[.slice A t.length c, .int .i64 0]) ∧ w'.ownsRow w.heap.size 37 3 (.slice A t.length c) t.length (encs t)
  else e = .returned (.tuple #[.slice none 0 0, .int .i64 7])
set_option maxHeartbeats 1000000 in
theorem rget_any (w : World) (O : Nat → Prop) (ra cells : Nat) (l : List ObjA) (x : Int) (t : List CellD) (h : RfAt w O ra cells (refOf l)) (hw : WfA l) (hll : l.length ≤ 1000000) (ht : Tells l [x] t) :
    Calls Tryd.prog 67 #[.pointer (some ⟨ra, 0, none⟩), (valR l x).agg] w fun e w' => IsRGet w w' t e ∧ Below w.heap.size w w' := by
  have hB0 : ∀ v : ValR, Below w.heap.size w (w.alloc (.cells #[.int .i64 v.obj, .int .i64 v.cell.kind, .int .i64 v.cell.n, .string v.cell.text] 39)) := fun v => below_one w _
  have htm := fun W (hB : Below w.heap.size w W) => rterm_any W O ra cells l x t (h.below hB) hw hll ht
  obtain ⟨v0, hv0⟩ : ∃ v, valR l x = v := ⟨_, rfl⟩
  rw [hv0] at htm ⊢
  unfold ValR.agg at htm ⊢
  have htm := htm _ (hB0 v0)
  have HB0 := Lib.hid (hB0 v0)
  obtain ⟨u, hu⟩ : ∃ u, t.take 1025 = u := ⟨_, rfl⟩
  rw [hu] at htm
  have HU := Lib.hid hu
  have hul : u.length ≤ 1025 := by rw [← hu, List.length_take]; omega
  clear hB0 hv0 hu h hw ht
  go_enter Tryd.func67, Tryd.ntmps67
  go_wp2_with fail
  refine htm.mono ?_
  rintro e w1 ⟨A, c, rfl, hrow, hb⟩
  by_cases hl : t.length ≤ 1024
  · have e : u = t := by rw [← HU.out, List.take_of_length_le (by omega)]
    subst e
    have hbb : decide ((1024 : Int) < (u.length : Int)) = false := decide_eq_false (by omega)
    have hbn : ¬ 1024 < u.length := by omega
    have HF := Lib.hid (row_mono hrow HB0.out.size)
    have HL := Lib.hid hl
    clear hl hrow
    go_wp2
    go_ret2
    refine ⟨?_, below_then HB0.out hb⟩
    unfold IsRGet
    rw [if_pos HL.out]
    exact ⟨A, c, rfl, HF.out⟩
  · have e : u.length = 1025 := by rw [← HU.out, List.length_take]; omega
    have hbb : decide ((1024 : Int) < (u.length : Int)) = true := decide_eq_true (by omega)
    have hbn : 1024 < u.length := by omega
    have HL := Lib.hid hl
    clear hl e
    go_wp2
    go_ret2
    refine ⟨?_, below_then HB0.out hb⟩
    unfold IsRGet
    rw [if_neg HL.out]
    rfl
/-- What the reference's Part answers. -/
def rpartV (l : List ObjA) (c : CellD) (ps : List Int) (i : Int) : ValR := if partE (some (c, ps)) i = 0 then valR l (ps.getD i.toNat 0) else ⟨0, zeroR⟩
set_option maxHeartbeats 4000000 in
theorem rpart_any (w : World) (O : Nat → Prop) (ra cells : Nat) (l : List ObjA) (x i : Int) (c : CellD) (ps : List Int) (h : RfAt w O ra cells (refOf l)) (hw : WfA l) (hll : l.length ≤ 1000000) (hs : seenA l x = some (c, ps)) :
    Calls Tryd.prog 68 #[.pointer (some ⟨ra, 0, none⟩), (valR l x).agg, .int .i64 i] w fun e w' => e = .returned (.tuple #[(rpartV l c ps i).agg, .int .i64 (partE (some (c, ps)) i)]) ∧ Below w.heap.size w w' := by
  obtain ⟨k, hv, hk1, hk2, hpv⟩ := parts_val hw hs
  rw [hv]
  unfold ValR.agg
  obtain ⟨wA, hwA⟩ : ∃ W, (w.alloc (.cells #[.int .i64 k, .int .i64 c.kind, .int .i64 c.n, .string c.text] 39)).alloc (.cells #[.int .i64 0, .int .i64 0, .int .i64 0, .string ⟨#[]⟩] 39) = W := ⟨_, rfl⟩
  have hBA : Below w.heap.size w wA := hwA ▸ below_alloc' (below_one w _) _
  have hXA : BlkIs wA w.heap.size #[.int .i64 k, .int .i64 c.kind, .int .i64 c.n, .string c.text] 39 := by
    rw [← hwA]
    exact (Below.heap_alloc _ _ _ (by rw [World.size_alloc]; omega)).trans (heap_new w _)
  have hYA : BlkIs wA (w.heap.size + 1) #[.int .i64 0, .int .i64 0, .int .i64 0, .string ⟨#[]⟩] 39 := by
    have := heap_new (w.alloc (.cells #[.int .i64 k, .int .i64 c.kind, .int .i64 c.n, .string c.text] 39)) (.cells #[.int .i64 0, .int .i64 0, .int .i64 0, .string ⟨#[]⟩] 39)
    rw [World.size_alloc, hwA] at this
    exact this
  have hpt := rparts_any wA O ra cells (refOf l) k c (h.below hBA) ⟨hk1, by rw [refOf_len]; exact hk2⟩ (by rw [refOf_len]; exact hll)
  rw [hpv] at hpt
  have x0 := hXA.cell 0 (v := .int .i64 k) rfl
  have x1 := hXA.cell 1 (v := .int .i64 c.kind) rfl
  have x2 := hXA.cell 2 (v := .int .i64 c.n) rfl
  have x3 := hXA.cell 3 (v := .string c.text) rfl
  have HWA := Lib.hid hwA
  have HBA := Lib.hid hBA
  have HYA := Lib.hid hYA
  have fin : ∀ (W : World) (hB : Below wA.heap.size wA W) (v : ValR), Below w.heap.size w ((((W.setCell ⟨w.heap.size + 1, 0, none⟩ (.int .i64 v.obj)).setCell ⟨w.heap.size + 1, 1, none⟩ (.int .i64 v.cell.kind)).setCell ⟨w.heap.size + 1, 2, none⟩ (.int .i64 v.cell.n)).setCell ⟨w.heap.size + 1, 3, none⟩ (.string v.cell.text)) := fun W hB v =>
    ((((below_then HBA.out hB).setCell (p := ⟨w.heap.size + 1, 0, none⟩) (Nat.le_succ _) _).setCell (p := ⟨w.heap.size + 1, 1, none⟩) (Nat.le_succ _) _).setCell (p := ⟨w.heap.size + 1, 2, none⟩) (Nat.le_succ _) _).setCell (p := ⟨w.heap.size + 1, 3, none⟩) (Nat.le_succ _) _
  have FIN := Lib.hid fin
  clear hwA hBA hYA hXA fin h hw hs hv
  by_cases hk : c.kind = 5 ∨ c.kind = 7
  · have hkb : (c.kind != 5) = false ∨ ((c.kind != 5) = true ∧ (c.kind != 7) = false) := by
      by_cases e : c.kind = 5
      · exact .inl (by rw [e]; rfl)
      · exact .inr ⟨by rw [bne_iff_ne]; exact e, by rw [show c.kind = 7 by omega]; rfl⟩
    by_cases hi : i < 0 ∨ (ps.length : Int) ≤ i
    · have E := Lib.hid (show partE (some (c, ps)) i = 1 by unfold partE; simp only; rw [if_neg (fun q => q hk), if_pos hi])
      have E2 := Lib.hid (show rpartV l c ps i = ⟨0, zeroR⟩ by unfold rpartV; rw [E.out, if_neg (by omega)])
      have hib : (i < 0 ∧ decide (i < 0) = true) ∨ (¬ i < 0 ∧ decide (i < 0) = false ∧ (ps.length : Int) ≤ i ∧ decide ((ps.length : Int) ≤ i) = true) := by
        by_cases e : i < 0
        · exact .inl ⟨e, decide_eq_true e⟩
        · exact .inr ⟨e, decide_eq_false e, by omega, decide_eq_true (by omega)⟩
      clear hk hi
      rw [List.length_map] at hpt
      rcases hkb with k5 | ⟨k5, k7⟩
      all_goals
        rcases hib with ⟨hi, hib⟩ | ⟨hi, hib, hj, hjb⟩
        all_goals
          go_enter Tryd.func68, Tryd.ntmps68
          go_wp2_with fail
          rw [HWA.out]
          go_wp2_with fail
          refine hpt.mono ?_
          rintro e w1 ⟨⟨A, cp, rfl, _, _, _⟩, hb1⟩
          have BY := HYA.out.below hb1
          have z0 := BY.cell 0 (v := .int .i64 0) rfl
          have z1 := BY.cell 1 (v := .int .i64 0) rfl
          have z2 := BY.cell 2 (v := .int .i64 0) rfl
          have z3 := BY.cell 3 (v := .string ⟨#[]⟩) rfl
          have f0 := BY.frozen 0
          have f1 := BY.frozen 1
          have f2 := BY.frozen 2
          have f3 := BY.frozen 3
          have BZ := Lib.hid (blk_set4 BY (.int .i64 0) (.int .i64 0) (.int .i64 0) (.string ⟨#[]⟩))
          have HB1 := Lib.hid hb1
          clear BY hb1 hpt
          go_wp2
          obtain ⟨q0, q1, q2, q3⟩ := (⟨BZ.out.cell 0 rfl, BZ.out.cell 1 rfl, BZ.out.cell 2 rfl, BZ.out.cell 3 rfl⟩ : _ ∧ _ ∧ _ ∧ _)
          refine bodyPost_ret (v := .tuple #[.agg #[.int .i64 0, .int .i64 0, .int .i64 0, .string ⟨#[]⟩], .int .i64 1]) (by simp [results, Tryd.results68, go_sem, q0, q1, q2, q3]) rfl ?_
          rw [E.out, E2.out]
          exact ⟨rfl, FIN.out _ HB1.out ⟨0, zeroR⟩⟩
    · obtain ⟨j, rfl⟩ : ∃ j : Nat, i = (j : Int) := ⟨i.toNat, by omega⟩
      have hj : j < ps.length := by omega
      have E := Lib.hid (show partE (some (c, ps)) (j : Int) = 0 by unfold partE; simp only; rw [if_neg (fun q => q hk), if_neg hi])
      have E2 := Lib.hid (show rpartV l c ps (j : Int) = valR l ps[j] by unfold rpartV; rw [E.out, if_pos rfl]; simp [hj])
      have hjm : j < (ps.map (valR l)).length := by rw [List.length_map]; exact hj
      have hjb : decide ((ps.length : Int) ≤ (j : Int)) = false := decide_eq_false (by omega)
      have hjn : ¬ ps.length ≤ j := by omega
      have hj1 : (j : Int) < (ps.length : Int) := by omega
      obtain ⟨v, hv⟩ : ∃ v, valR l ps[j] = v := ⟨_, rfl⟩
      rw [hv] at E2
      have hvm : (ps.map (valR l))[j] = v := by rw [List.getElem_map]; exact hv
      have HVM := Lib.hid hvm
      clear hk hi hv hvm
      rcases hkb with k5 | ⟨k5, k7⟩
      all_goals
        go_enter Tryd.func68, Tryd.ntmps68
        go_wp2_with fail
        rw [HWA.out]
        go_wp2_with fail
        refine hpt.mono ?_
        rintro e w1 ⟨⟨A, cp, rfl, hcp, hVr, _⟩, hb1⟩
        obtain ⟨g, o, rfl, p0, p1, p2, p3⟩ := hVr j hjm
        rw [HVM.out] at p0 p1 p2 p3
        rw [List.length_map] at hcp ⊢
        have BY := HYA.out.below hb1
        have z0 := BY.cell 0 (v := .int .i64 0) rfl
        have z1 := BY.cell 1 (v := .int .i64 0) rfl
        have z2 := BY.cell 2 (v := .int .i64 0) rfl
        have z3 := BY.cell 3 (v := .string ⟨#[]⟩) rfl
        have f0 := BY.frozen 0
        have f1 := BY.frozen 1
        have f2 := BY.frozen 2
        have f3 := BY.frozen 3
        have BZ := Lib.hid (blk_set4 BY (.int .i64 v.obj) (.int .i64 v.cell.kind) (.int .i64 v.cell.n) (.string v.cell.text))
        have HB1 := Lib.hid hb1
        clear BY hb1 hpt hVr
        go_wp2
        obtain ⟨q0, q1, q2, q3⟩ := (⟨BZ.out.cell 0 rfl, BZ.out.cell 1 rfl, BZ.out.cell 2 rfl, BZ.out.cell 3 rfl⟩ : _ ∧ _ ∧ _ ∧ _)
        refine bodyPost_ret (v := .tuple #[.agg #[.int .i64 v.obj, .int .i64 v.cell.kind, .int .i64 v.cell.n, .string v.cell.text], .int .i64 0]) (by simp [results, Tryd.results68, go_sem, q0, q1, q2, q3]) rfl ?_
        rw [E.out, E2.out]
        exact ⟨rfl, FIN.out _ HB1.out v⟩
  · have E := Lib.hid (show partE (some (c, ps)) i = 32 by unfold partE; simp only; rw [if_pos hk])
    have E2 := Lib.hid (show rpartV l c ps i = ⟨0, zeroR⟩ by unfold rpartV; rw [E.out, if_neg (by omega)])
    have k5' : (c.kind != 5) = true := by rw [bne_iff_ne]; exact fun e => hk (.inl e)
    have k7' : (c.kind != 7) = true := by rw [bne_iff_ne]; exact fun e => hk (.inr e)
    have BY := HYA.out
    have z0 := BY.cell 0 (v := .int .i64 0) rfl
    have z1 := BY.cell 1 (v := .int .i64 0) rfl
    have z2 := BY.cell 2 (v := .int .i64 0) rfl
    have z3 := BY.cell 3 (v := .string ⟨#[]⟩) rfl
    have f0 := BY.frozen 0
    have f1 := BY.frozen 1
    have f2 := BY.frozen 2
    have f3 := BY.frozen 3
    have BZ := Lib.hid (blk_set4 BY (.int .i64 0) (.int .i64 0) (.int .i64 0) (.string ⟨#[]⟩))
    clear BY hk hpt
    go_enter Tryd.func68, Tryd.ntmps68
    go_upto_region 1 with (fail)
    rw [HWA.out]
    go_wp2
    obtain ⟨q0, q1, q2, q3⟩ := (⟨BZ.out.cell 0 rfl, BZ.out.cell 1 rfl, BZ.out.cell 2 rfl, BZ.out.cell 3 rfl⟩ : _ ∧ _ ∧ _ ∧ _)
    refine bodyPost_ret (v := .tuple #[.agg #[.int .i64 0, .int .i64 0, .int .i64 0, .string ⟨#[]⟩], .int .i64 32]) (by simp [results, Tryd.results68, go_sem, q0, q1, q2, q3]) rfl ?_
    rw [E.out, E2.out]
    exact ⟨rfl, FIN.out _ (Below.refl _ _) ⟨0, zeroR⟩⟩
end Go.Proofs.YtejcbpbhhofhlaaDoor.Tm
