/- Layer 3's reference: Cost, Total, Used, make, leaf. -/
import Derived.Test.YtejcbpbhhofhlaaDoorRfA
import Derived.Deep.AppendLies
import Derived.Deep.RegionLaw
namespace Go.Proofs.YtejcbpbhhofhlaaDoor.Tm
open Go.RowKit
set_option linter.unusedVariables false
set_option linter.unusedSimpArgs false

set_option maxHeartbeats 1000000 in
theorem rcost_any (c : CellD) (w : World) (hc : WfC c) (he : cellE c = 0) :
    Calls Tryd.prog 35 #[.agg #[.int .i64 c.kind, .int .i64 c.n, .string c.text]] w fun e w' => e = .returned (.int .i64 (costC c : Int)) ∧ Below w.heap.size w w' := by
  have hk := cellE_kind he
  have ht := cellE_text he
  have hB0 := below_one w (.cells #[.int .i64 c.kind, .int .i64 c.n, .string c.text] 37)
  by_cases h5 : c.kind = 5
  · have hn := cellE_tuple he h5
    have H := Lib.hid (show (costC c : Int) = 1 + c.n by
      unfold costC plainK
      rw [if_neg (by omega), if_neg (by omega), if_pos (by omega), if_pos h5]
      omega)
    have e5 : (c.kind == 5) = true := by rw [h5]; rfl
    clear he hk ht h5 hc
    go_enter Tryd.func35, Tryd.ntmps35
    go_wp2
    go_ret
    exact ⟨by rw [H.out]; first | rfl | (simp [IntKind.wrap_i64]; omega), hB0⟩
  have e5 : (c.kind == 5) = false := beq_eq_false_iff_ne.2 h5
  by_cases h2 : c.kind = 7 ∨ c.kind = 3 ∨ c.kind = 4
  · have H := Lib.hid (show (costC c : Int) = 2 by
      unfold costC plainK
      rw [if_neg (by omega), if_pos (by omega), if_neg h5]
      omega)
    by_cases h7 : c.kind = 7
    · have e7 : (c.kind == 7) = true := by rw [h7]; rfl
      clear he hk ht h5 hc h2 h7
      go_enter Tryd.func35, Tryd.ntmps35
      go_wp2
      go_ret
      exact ⟨by rw [H.out]; rfl, hB0⟩
    have e7 : (c.kind == 7) = false := beq_eq_false_iff_ne.2 h7
    by_cases h3 : c.kind = 3
    · have e3 : (c.kind == 3) = true := by rw [h3]; rfl
      clear he hk ht h5 hc h2 h7 h3
      go_enter Tryd.func35, Tryd.ntmps35
      go_wp2
      go_ret
      exact ⟨by rw [H.out]; rfl, hB0⟩
    have e3 : (c.kind == 3) = false := beq_eq_false_iff_ne.2 h3
    have e4 : (c.kind == 4) = true := by rw [show c.kind = 4 by omega]; rfl
    clear he hk ht h5 hc h2 h7 h3
    go_enter Tryd.func35, Tryd.ntmps35
    go_wp2
    go_ret
    exact ⟨by rw [H.out]; rfl, hB0⟩
  have e7 : (c.kind == 7) = false := beq_eq_false_iff_ne.2 (fun e => h2 (.inl e))
  have e3 : (c.kind == 3) = false := beq_eq_false_iff_ne.2 (fun e => h2 (.inr (.inl e)))
  have e4 : (c.kind == 4) = false := beq_eq_false_iff_ne.2 (fun e => h2 (.inr (.inr e)))
  by_cases h28 : c.kind = 2 ∨ c.kind = 8
  · have H := Lib.hid (show (costC c : Int) = 1 + ((c.text.size : Int) + 7) / 8 by
      unfold costC plainK
      rw [if_neg (by omega), if_neg (by omega), if_pos (by omega), if_neg h5]
      omega)
    by_cases k2 : c.kind = 2
    · have e2 : (c.kind == 2) = true := by rw [k2]; rfl
      clear he hk h5 hc h2 h28 k2
      go_enter Tryd.func35, Tryd.ntmps35
      go_wp2
      all_goals
        go_ret
        exact ⟨by rw [H.out]; first | rfl | (simp [IntKind.wrap_i64]; omega), hB0⟩
    have e2 : (c.kind == 2) = false := beq_eq_false_iff_ne.2 k2
    have e8 : (c.kind == 8) = true := by rw [show c.kind = 8 by omega]; rfl
    clear he hk h5 hc h2 h28 k2
    go_enter Tryd.func35, Tryd.ntmps35
    go_wp2
    all_goals
      go_ret
      exact ⟨by rw [H.out]; first | rfl | (simp [IntKind.wrap_i64]; omega), hB0⟩
  have e2 : (c.kind == 2) = false := beq_eq_false_iff_ne.2 (fun e => h28 (.inl e))
  have e8 : (c.kind == 8) = false := beq_eq_false_iff_ne.2 (fun e => h28 (.inr e))
  have hsm := fun W => small_any c W
  have hB1 : ∀ w1, Below (w.alloc (.cells #[.int .i64 c.kind, .int .i64 c.n, .string c.text] 37)).heap.size (w.alloc (.cells #[.int .i64 c.kind, .int .i64 c.n, .string c.text] 37)) w1 → Below w.heap.size w w1 := fun w1 h => below_then hB0 h
  by_cases hs : SmallC c
  · have H := Lib.hid (cost_small he hs)
    have hb : smallB c = true := (smallB_iff c).2 hs
    simp only [hb] at hsm
    clear he hk ht h5 hc h2 h28 hs hb
    go_enter Tryd.func35, Tryd.ntmps35
    go_wp2_with fail
    refine (hsm _).mono ?_
    rintro e w1 ⟨rfl, hb1⟩
    go_wp2
    go_ret
    exact ⟨by rw [H.out]; rfl, hB1 _ hb1⟩
  · have H := Lib.hid (show costC c = 2 by
      have hk1 : c.kind = 1 := by
        have : ¬ c.kind = 6 := fun e => hs (.inl e)
        omega
      unfold costC plainK
      rw [if_neg (fun e => hs (.inr e)), if_pos (by omega), if_neg h5]
      omega)
    have hb : smallB c = false := by rw [smallB_eq]; simp [hs]
    simp only [hb] at hsm
    clear he hk ht h5 hc h2 h28 hs hb
    go_enter Tryd.func35, Tryd.ntmps35
    go_wp2_with fail
    refine (hsm _).mono ?_
    rintro e w1 ⟨rfl, hb1⟩
    go_wp2
    go_ret
    exact ⟨by rw [H.out]; rfl, hB1 _ hb1⟩
theorem totalA_step {l : List CellD} {j : Nat} (h : j < l.length) : totalA (l.take (j + 1)) = totalA (l.take j) + costC l[j] := by
  rw [List.take_succ_eq_append_getElem h, totalA_snoc]
theorem totalA_mono (l : List CellD) (j : Nat) : totalA (l.take j) ≤ totalA l := by
  have h := totalA_append (l.take j) (l.drop j)
  rw [List.take_append_drop] at h
  omega
set_option maxHeartbeats 1000000 in
theorem rtotal_any (t : List CellD) (A : Option Addr) (cap : Nat) (w : World) (hr : Reads w A t) (hwf : ∀ j (h : j < t.length), WfC t[j]) (hce : ∀ c ∈ t, cellE c = 0) (hl : t.length ≤ 1000000000000000) (hT : totalA t ≤ 1000000000000000) :
    Calls Tryd.prog 11 #[.slice A t.length cap] w fun e w' => e = .returned (.int .i64 (totalA t : Int)) ∧ Below w.heap.size w w' := by
  have HR := Lib.hid hr
  have HW := Lib.hid hwf
  have HE := Lib.hid hce
  clear hr hwf hce
  go_enter Tryd.func11, Tryd.ntmps11
  go_wp2_with fail
  go_loopw [3, 4] (fun s i wr => ∃ j : Nat, j ≤ t.length ∧ s = .int .i64 (totalA (t.take j) : Int) ∧ i = .int .i64 (j : Int) ∧ Hid (Below w.heap.size w wr)) (fun s i wr => t.length - (intOf i).toNat)
  case atStart => exact ⟨0, Nat.zero_le _, rfl, rfl, Lib.hid (Below.refl _ _)⟩
  case round =>
    obtain ⟨j, hj, rfl, rfl, hB⟩ := hrel
    by_cases hlt : j < t.length
    · obtain ⟨b, o, rfl, hc⟩ := HR.out j hlt
      obtain ⟨hc0, hc1, hc2⟩ := hc.below hB.out
      have hcw := Lib.hid (HW.out j hlt)
      have hce := Lib.hid (HE.out t[j] (List.getElem_mem _))
      have htk := Lib.hid (totalA_step hlt)
      have hle := totalA_mono t (j + 1)
      rw [htk.out] at hle
      generalize totalA (t.take j) = S0 at *
      generalize t[j] = c at *
      go_wp2_with fail
      refine (rcost_any c _ hcw.out hce.out).mono ?_
      rintro e w' ⟨rfl, hb⟩
      have hB2 := Lib.hid (below_then hB.out hb)
      generalize costC c = S1 at *
      go_wp2
      go_roundw
      case rel => exact ⟨j + 1, by omega, by rw [htk.out]; go_num, by go_num, hB2⟩
      case measure => simp [intOf]; omega
    · obtain rfl : j = t.length := by omega
      rw [List.take_length]
      go_wp2
      go_ret
      exact ⟨rfl, hB.out⟩
def usedR (rs : List ObjR) : Nat := totalA (rs.map ObjR.cell)
set_option maxHeartbeats 1000000 in
theorem rused_any (w : World) (O : Nat → Prop) (ra cells : Nat) (rs : List ObjR) (h : RfAt w O ra cells rs) (hwf : ∀ o ∈ rs, WfC o.cell ∧ cellE o.cell = 0) (hl : rs.length ≤ 1000000000000000) (hT : usedR rs ≤ 1000000000000000) :
    Calls Tryd.prog 22 #[.pointer (some ⟨ra, 0, none⟩)] w fun e w' => e = .returned (.int .i64 (usedR rs : Int)) ∧ Below w.heap.size w w' := by
  obtain ⟨vO, pv, hR⟩ := h
  obtain ⟨AO, cO, hvO⟩ := row_slice hR.row
  subst hvO
  have HR := Lib.hid hR
  have HW := Lib.hid hwf
  unfold usedR at *
  have hml : (rs.map ObjR.cell).length = rs.length := List.length_map _
  have HML := Lib.hid hml
  clear hR hwf hml
  go_enter Tryd.func22, Tryd.ntmps22
  go_wp2_with fail
  go_loopw [3, 4] (fun s i wr => ∃ j : Nat, j ≤ rs.length ∧ s = .int .i64 (totalA ((rs.map ObjR.cell).take j) : Int) ∧ i = .int .i64 (j : Int) ∧ Hid (Below w.heap.size w wr)) (fun s i wr => rs.length - (intOf i).toNat)
  case atStart => exact ⟨0, Nat.zero_le _, rfl, rfl, Lib.hid (Below.refl _ _)⟩
  case round =>
    obtain ⟨j, hj, rfl, rfl, hB⟩ := hrel
    obtain ⟨c0, c1⟩ := HR.out.cells
    have c1' := cell_below hB.out c1
    by_cases hlt : j < rs.length
    · obtain ⟨g, cap, hv, d0, d1, d2, _⟩ := HR.out.objs j hlt
      obtain ⟨rfl, rfl⟩ : AO = some ⟨g, 0, none⟩ ∧ cO = cap := by simpa using hv
      have d0' := cell_below hB.out d0
      have d1' := cell_below hB.out d1
      have d2' := cell_below hB.out d2
      have hw := HW.out rs[j] (List.getElem_mem _)
      have htk := totalA_step (l := rs.map ObjR.cell) (j := j) (by rw [HML.out]; exact hlt)
      rw [List.getElem_map] at htk
      have hle := totalA_mono (rs.map ObjR.cell) (j + 1)
      rw [htk] at hle
      have HTK := Lib.hid htk
      have HWJ := Lib.hid hw
      generalize totalA ((rs.map ObjR.cell).take j) = S0 at *
      generalize rs[j].cell = c at *
      clear hv d0 d1 d2 c0 c1 htk hw
      go_wp2_with fail
      refine (rcost_any c _ HWJ.out.1 HWJ.out.2).mono ?_
      rintro e w' ⟨rfl, hb⟩
      have hB2 := Lib.hid (below_then hB.out hb)
      generalize costC c = S1 at *
      go_wp2
      go_roundw
      case rel => exact ⟨j + 1, by omega, by rw [HTK.out]; go_num, by go_num, hB2⟩
      case measure => simp [intOf]; omega
    · obtain rfl : j = rs.length := by omega
      rw [List.take_of_length_le (by rw [HML.out]; exact Nat.le_refl _)]
      clear c0 c1
      go_wp2
      go_ret
      exact ⟨rfl, hB.out⟩
end Go.Proofs.YtejcbpbhhofhlaaDoor.Tm
