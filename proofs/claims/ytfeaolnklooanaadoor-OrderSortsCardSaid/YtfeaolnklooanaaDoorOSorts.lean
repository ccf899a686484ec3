/- The law OrderSorts: whatever the terms, it returns true. -/
import Derived.Test.YtfeaolnklooanaaDoorOSortP
import Derived.Test.YtfeaolnklooanaaDoorMid
import Derived.Deep.RegionHeld3
namespace Go.Proofs.YtfeaolnklooanaaDoor.Tm
open Go.RowKit Go.Proofs.YtfeaolnklooanaaDoor.Sx
set_option linter.unusedVariables false
set_option linter.unusedSimpArgs false

theorem known_then (w w' : World) (hB : Below w.heap.size w w') (hT : Tabs w) : Calls Tryd.prog 20 #[] w' fun e V => e = .returned (.bool true) ∧ Below w.heap.size w V :=
  (known5_any w' (Utf8Tabs_below hT hB)).mono fun e V h => ⟨h.1, below_then hB h.2⟩
set_option maxRecDepth 100000 in
set_option maxHeartbeats 16000000 in
theorem osorts_any (ls : List (List CellD)) (C : Option Addr) (c n : Nat) (hlen : ls.length = n) (w : World) (hr : Reads2 w C ls) (hf : Fine2 ls) (hn : n * 24 ≤ 140737488351232) (hT : Tabs w) :
    Calls Tryd.prog 6 #[.slice C n c] w fun e w' => e = .returned (.bool true) ∧ Below w.heap.size w w' := by
  have HR := Lib.hid hr
  have HF := Lib.hid hf
  have HT := Lib.hid hT
  have HLN := Lib.hid hlen
  have HSO := Lib.hid (osort_any ls C c w hr hf (by omega) hT)
  have HSR := Lib.hid (fun w' (hB : Below w.heap.size w w') => omax_any ls C c w' (hr.below hB) hf (by omega) (Utf8Tabs_below hT hB))
  rw [hlen] at HSO HSR
  clear hr hf hT hlen
  go_enter Tryd.func6, Tryd.ntmps6
  go_wp2_with fail
  refine HSO.out.mono ?_
  rintro e w1 ⟨(⟨hne, rfl⟩ | ⟨hw, A1, c1, ys, rfl, hS, hyl⟩), hB1⟩
  · have te : (wrongE ls != 0) = true := by rw [bne_iff_ne]; exact hne
    have HB1 := Lib.hid hB1
    clear hne hB1 HSO HSR
    go_wp2_with fail
    refine (known_then w _ HB1.out HT.out).mono ?_
    rintro e w2 ⟨rfl, hB2⟩
    go_wp2
    go_ret
    exact ⟨rfl, hB2⟩
  have HW := Lib.hid hw
  have HRT := Lib.hid (wrong_all hw)
  obtain ⟨ss, hss⟩ : ∃ ss, ys.map Yld.l = ss := ⟨_, rfl⟩
  have HP := Lib.hid (show ss.Perm ls from hss ▸ hS.2.2.2.1)
  have HPW := Lib.hid (show ss.Pairwise (fun a b => termCmp a b ≤ 0) from hss ▸ hS.2.2.2.2)
  have HSL := Lib.hid (show ss.length = n by rw [← hss, List.length_map, hyl])
  have HRS := Lib.hid (show Reads2 w1 A1 ss by
    rw [← hss]
    exact YRows.reads2 (base := w.heap.size) (c := c1) (by have h1 := hS.1; rw [hyl] at h1 ⊢; exact h1) hS.2.1)
  have HSRT := Lib.hid (show ∀ l ∈ ss, (rightE l).1 = 0 from fun l hl => HRT.out l (HP.out.mem_iff.1 hl))
  have HFS := Lib.hid (show Fine2 ss from fun j hj => by
    obtain ⟨i, hi, e⟩ := List.mem_iff_getElem.1 (HP.out.mem_iff.1 (List.getElem_mem hj))
    rw [← e]; exact HF.out i hi)
  have HB1 := Lib.hid hB1
  have hnn : ((n : Int) != (n : Int)) = false := by simp
  clear hw hS hyl hss hB1 HSO
  go_wp2
  go_loopw [5] (fun iv wr => ∃ i : Nat, i ≤ n ∧ iv = .int .i64 i ∧ Hid (Below w1.heap.size w1 wr)) (fun iv wr => n - (intOf iv).toNat)
  case atStart => exact ⟨0, Nat.zero_le _, rfl, Below.refl _ _⟩
  case round =>
    obtain ⟨i, hin, rfl, hB⟩ := hrel
    by_cases hlt : i < n
    · have hk1 : (i : Int) < (n : Int) := by omega
      have hk0 : (0 : Int) ≤ (i : Int) := by omega
      have hil : i < ls.length := by rw [HLN.out]; exact hlt
      obtain ⟨g, o, hC, Ai, ci, hci, hlei, hri⟩ := HR.out i hil
      subst hC
      have hxr := HRT.out _ (List.getElem_mem hil)
      obtain ⟨x, hx⟩ : ∃ x, ls[i] = x := ⟨_, rfl⟩
      rw [hx] at hci hlei hri hxr
      have hxl := (rightE_ok hxr).2.2
      obtain ⟨nx, hnx⟩ : ∃ m, x.length = m := ⟨_, rfl⟩
      rw [hnx] at hci hlei hxl
      have HNX := Lib.hid hnx
      have QX := Lib.hid (cell_below HB1.out hci)
      have HRX := Lib.hid (hri.below HB1.out)
      have w3 : IntKind.i64.wrap ((i : Int) + 1) = (i : Int) + 1 := by rw [IntKind.wrap_i64]; omega
      obtain ⟨wo, hwo⟩ : ∃ W, W = wr := ⟨_, rfl⟩
      subst hwo
      clear hci hri hxr hnx hx
      go_wp2
      go_loopw [6, 7] (fun nv kv wr => ∃ (k a b : Nat), k ≤ n ∧ kv = .int .i64 k ∧ nv = .int .i64 ((a : Int) - (b : Int)) ∧ a ≤ k ∧ b ≤ k ∧ Hid (a = cnt x (ls.take k) ∧ b = cnt x (ss.take k)) ∧ Hid (Below w1.heap.size w1 wr)) (fun nv kv wr => n - (intOf kv).toNat)
      case atStart => exact ⟨0, 0, 0, Nat.zero_le _, rfl, rfl, Nat.le_refl _, Nat.le_refl _, ⟨(cnt_zero _ _).symm, (cnt_zero _ _).symm⟩, hB⟩
      case round =>
        clear hB
        obtain ⟨k, a, b, hkn, rfl, rfl, hak, hbk, hab, hB⟩ := hrel
        by_cases hlt2 : k < n
        · have hj1 : (k : Int) < (n : Int) := by omega
          have hj0 : (0 : Int) ≤ (k : Int) := by omega
          have hkl : k < ls.length := by rw [HLN.out]; exact hlt2
          have hks : k < ss.length := by rw [HSL.out]; exact hlt2
          obtain ⟨g', o', hC, Ak, ck, hck, hlek, hrk⟩ := HR.out k hkl
          obtain ⟨rfl, rfl⟩ : g = g' ∧ o = o' := by simpa using hC
          obtain ⟨g2, o2, hC2, As, cs, hcs, hles, hrs⟩ := HRS.out k hks
          subst hC2
          have hyr := HRT.out _ (List.getElem_mem hkl)
          have hzr := HSRT.out _ (List.getElem_mem hks)
          have HC1 := Lib.hid (cnt_succ (x := x) hkl)
          have HC2 := Lib.hid (cnt_succ (x := x) hks)
          obtain ⟨y, hy⟩ : ∃ y, ls[k] = y := ⟨_, rfl⟩
          obtain ⟨z, hz⟩ : ∃ z, ss[k] = z := ⟨_, rfl⟩
          rw [hy] at hck hlek hrk hyr HC1
          rw [hz] at hcs hles hrs hzr HC2
          have hyl := (rightE_ok hyr).2.2
          have hzl := (rightE_ok hzr).2.2
          obtain ⟨ny, hny⟩ : ∃ m, y.length = m := ⟨_, rfl⟩
          obtain ⟨nz, hnz⟩ : ∃ m, z.length = m := ⟨_, rfl⟩
          rw [hny] at hck hlek hyl
          rw [hnz] at hcs hles hzl
          have HNY := Lib.hid hny
          have HNZ := Lib.hid hnz
          have q0 := cell_below hB.out QX.out
          have q1 := cell_below hB.out (cell_below HB1.out hck)
          have q2 := cell_below hB.out hcs
          have HRY := Lib.hid ((hrk.below HB1.out).below hB.out)
          have HRZ := Lib.hid (hrs.below hB.out)
          have HRXw := Lib.hid (HRX.out.below hB.out)
          have u1 : IntKind.i64.wrap ((a : Int) - (b : Int) + 1) = (a : Int) - (b : Int) + 1 := by rw [IntKind.wrap_i64]; omega
          have u2 : IntKind.i64.wrap ((a : Int) - (b : Int) + 1 - 1) = (a : Int) - (b : Int) := by rw [IntKind.wrap_i64]; omega
          have u3 : IntKind.i64.wrap ((a : Int) - (b : Int) - 1) = (a : Int) - (b : Int) - 1 := by rw [IntKind.wrap_i64]; omega
          have u4 : IntKind.i64.wrap ((k : Int) + 1) = (k : Int) + 1 := by rw [IntKind.wrap_i64]; omega
          clear hck hrk hcs hrs hyr hzr hny hnz hy hz hC
          go_wp2_with fail
          go_region_held3 (fun w' => w'.cell? ⟨g, o + k, none⟩ = some (.slice Ak ny ck) ∧ w'.cell? ⟨g, o + i, none⟩ = some (.slice Ai nx ci))
            (first
              | exact ⟨cell_below hb q1, cell_below hb q0⟩
              | go_keep)
            ((go_at_call 10; refine (rsame_len y x _ _ HNY.out HNX.out Ak Ai ck ci _ (HRY.out.below ((Below.refl _ _).drew)) (HRXw.out.below ((Below.refl _ _).drew)) (by rw [HNY.out]; omega) (by rw [HNX.out]; omega)).mono ?_; rintro e wd ⟨rfl, hb⟩))
          have HB5 := Lib.hid (hB.out.trans ((((Below.refl _ wr).drew).trans hb).mono hB.out.size))
          have HRZ5 := Lib.hid (HRZ.out.below (((Below.refl _ wr).drew).trans hb))
          have HRX5 := Lib.hid (HRXw.out.below (((Below.refl _ wr).drew).trans hb))
          have q3 := cell_below hb (show wr.drew.cell? _ = _ from q0)
          have q4 := cell_below hb (show wr.drew.cell? _ = _ from q2)
          clear hb q0 q1 q2
          generalize hcb : decide (y = x) = cb
          have HCB := Lib.hid hcb
          clear hcb
          cases cb
          all_goals
            go_wp2_with fail
            go_region_held3 (fun w' => w'.cell? ⟨g2, o2 + k, none⟩ = some (.slice As nz cs) ∧ w'.cell? ⟨g, o + i, none⟩ = some (.slice Ai nx ci))
              (first
                | exact ⟨cell_below hb q4, cell_below hb q3⟩
                | go_keep)
              ((go_at_call 10; refine (rsame_len z x _ _ HNZ.out HNX.out As Ai cs ci _ (HRZ5.out.below ((Below.refl _ _).drew)) (HRX5.out.below ((Below.refl _ _).drew)) (by rw [HNZ.out]; omega) (by rw [HNX.out]; omega)).mono ?_; rintro e we ⟨rfl, hb⟩))
            have HB6 := Lib.hid (HB5.out.trans ((((Below.refl _ wd).drew).trans hb).mono HB5.out.size))
            clear hb q3 q4
            generalize hcb : decide (z = x) = cb2
            have HCB2 := Lib.hid hcb
            clear hcb
            cases cb2
            all_goals
              go_wp2
              go_roundw
              case rel => first
                | exact ⟨k + 1, a, b, by omega, by go_num, by go_num, by omega, by omega, ⟨by rw [HC1.out, HCB.out, ← hab.out.1]; rfl, by rw [HC2.out, HCB2.out, ← hab.out.2]; rfl⟩, HB6⟩
                | exact ⟨k + 1, a + 1, b, by omega, by go_num, by go_num, by omega, by omega, ⟨by rw [HC1.out, HCB.out, ← hab.out.1]; rfl, by rw [HC2.out, HCB2.out, ← hab.out.2]; rfl⟩, HB6⟩
                | exact ⟨k + 1, a, b + 1, by omega, by go_num, by go_num, by omega, by omega, ⟨by rw [HC1.out, HCB.out, ← hab.out.1]; rfl, by rw [HC2.out, HCB2.out, ← hab.out.2]; rfl⟩, HB6⟩
                | exact ⟨k + 1, a + 1, b + 1, by omega, by go_num, by go_num, by omega, by omega, ⟨by rw [HC1.out, HCB.out, ← hab.out.1]; rfl, by rw [HC2.out, HCB2.out, ← hab.out.2]; rfl⟩, HB6⟩
              case measure => simp [intOf]; omega
        · have hj1 : ¬ (k : Int) < (n : Int) := by omega
          have hab2 : a = b := by rw [hab.out.1, hab.out.2, show k = n by omega]; exact cnt_perm HP.out.symm HLN.out HSL.out
          subst hab2
          have hz : ((a : Int) - (a : Int) != 0) = false := by simp
          have hz2 : (a : Int) - (a : Int) = 0 := by omega
          clear hab
          by_cases hi0 : 0 < i
          · have hi1 : (0 : Int) < (i : Int) := by omega
            have hp1 : i - 1 < ss.length := by rw [HSL.out]; omega
            have hp2 : i < ss.length := by rw [HSL.out]; omega
            obtain ⟨g1, o1, hC1, Ap, cp, hcp, hlep, hrp⟩ := HRS.out (i - 1) hp1
            obtain ⟨g2, o2, hC2, Aq, cq, hcq, hleq, hrq⟩ := HRS.out i hp2
            subst hC1
            obtain ⟨rfl, rfl⟩ : g1 = g2 ∧ o1 = o2 := by simpa using hC2
            have hpr := HSRT.out _ (List.getElem_mem hp1)
            have hqr := HSRT.out _ (List.getElem_mem hp2)
            have HFP := Lib.hid (HFS.out (i - 1) hp1)
            have HFQ := Lib.hid (HFS.out i hp2)
            have HLE := Lib.hid (List.pairwise_iff_getElem.1 HPW.out (i - 1) i hp1 hp2 (by omega))
            obtain ⟨p, hp⟩ : ∃ p, ss[i - 1] = p := ⟨_, rfl⟩
            obtain ⟨q, hq⟩ : ∃ q, ss[i] = q := ⟨_, rfl⟩
            rw [hp] at hcp hlep hrp hpr HFP HLE
            rw [hq] at hcq hleq hrq hqr HFQ HLE
            obtain ⟨np, hnp⟩ : ∃ m, p.length = m := ⟨_, rfl⟩
            obtain ⟨nq', hnq⟩ : ∃ m, q.length = m := ⟨_, rfl⟩
            rw [hnp] at hcp
            rw [hnq] at hcq
            have HNP := Lib.hid hnp
            have HNQ := Lib.hid hnq
            have HLP := Lib.hid hlep
            have HLQ := Lib.hid hleq
            have q1 := cell_below hB.out hcp
            have q2 := cell_below hB.out hcq
            have HRP := Lib.hid (hrp.below hB.out)
            have HRQ := Lib.hid (hrq.below hB.out)
            have HCE := Lib.hid (compare_ok hpr hqr)
            have v1 : IntKind.i64.wrap ((i : Int) - 1) = (i : Int) - 1 := by rw [IntKind.wrap_i64]; omega
            have v2 : (0 : Int) ≤ (i : Int) - 1 := by omega
            have v2' : (1 : Int) ≤ (i : Int) := by omega
            have v3 : (i : Int) - 1 < (n : Int) := by omega
            have v4 : ((i : Int) - 1).toNat = i - 1 := by omega
            clear hcp hrp hcq hrq hpr hqr hnp hnq hp hq hC2 hlep hleq
            go_wp2_with fail
            go_region_held3 (fun w' => w'.cell? ⟨g1, o1 + (i - 1), none⟩ = some (.slice Ap np cp) ∧ w'.cell? ⟨g1, o1 + i, none⟩ = some (.slice Aq nq' cq))
              (first
                | exact ⟨cell_below hb q1, cell_below hb q2⟩
                | go_keep)
              ((go_at_call 26; refine (Compare_len p q _ _ HNP.out HNQ.out Ap Aq cp cq _ (HRP.out.below ((Below.refl _ _).drew)) (HRQ.out.below ((Below.refl _ _).drew)) HFP.out HFQ.out HLP.out HLQ.out (Utf8Tabs_below HT.out (below_then HB1.out hB.out).drew)).mono ?_; rw [HCE.out]; rintro e wd ⟨rfl, hb⟩))
            have HB5 := Lib.hid (hB.out.trans ((((Below.refl _ wr).drew).trans hb).mono hB.out.size))
            have hle := HLE.out
            have hgt : ¬ 0 < termCmp p q := by omega
            have hgd : decide (0 < termCmp p q) = false := decide_eq_false hgt
            clear hb q1 q2
            go_wp2_with fail
            go_roundw
            case rel => exact ⟨i + 1, by omega, by go_num, HB5⟩
            case measure => simp [intOf]; omega
          · obtain rfl : i = 0 := by omega
            go_wp2
            go_roundw
            case rel => exact ⟨1, by omega, by go_num, hB⟩
            case measure => simp [intOf]; omega
    · have hk1 : ¬ (i : Int) < (n : Int) := by omega
      have HBW := Lib.hid (below_then HB1.out hB.out)
      by_cases h0 : n = 0
      · have hz : ((n : Int) == 0) = true := by simp [h0]
        have H0 := Lib.hid h0
        clear h0
        go_wp2_with fail
        refine (known_then w _ HBW.out HT.out).mono ?_
        rintro e w2 ⟨rfl, hB2⟩
        go_wp2
        go_ret
        exact ⟨rfl, hB2⟩
      · have hz : ((n : Int) == 0) = false := by rw [beq_eq_false_iff_ne]; omega
        obtain ⟨x, l, hxl⟩ : ∃ x l, ls = x :: l := by
          cases ls with
          | nil => exact absurd HLN.out.symm h0
          | cons x l => exact ⟨x, l, rfl⟩
        have hns : n - 1 < ss.length := by rw [HSL.out]; omega
        obtain ⟨g2, o2, hC2, As, cs, hcs, hles, hrs⟩ := HRS.out (n - 1) hns
        subst hC2
        have hlast : ss[n - 1] = bestE x l := best_last (by rw [← hxl]; exact HRT.out) (by rw [← hxl]; exact HP.out) HPW.out (by rw [HSL.out]; omega)
        have hmx : maxE ls = (bestE x l, 0) := by rw [hxl]; exact maxE_ok (by rw [← hxl]; exact HW.out)
        have hbl : (bestE x l).length ≤ 1024 := bestE_len (by rw [← hxl]; exact HW.out)
        obtain ⟨m, hm⟩ : ∃ m, bestE x l = m := ⟨_, rfl⟩
        rw [hm] at hlast hmx hbl
        rw [hlast] at hcs hles hrs
        obtain ⟨nm, hnm⟩ : ∃ k, m.length = k := ⟨_, rfl⟩
        rw [hnm] at hcs hbl
        have HNM := Lib.hid hnm
        have HMX := Lib.hid hmx
        have q0 := cell_below hB.out hcs
        have HRM := Lib.hid (hrs.below hB.out)
        have v1 : IntKind.i64.wrap ((n : Int) - 1) = (n : Int) - 1 := by rw [IntKind.wrap_i64]; omega
        have v2 : (0 : Int) ≤ (n : Int) - 1 := by omega
        have v2' : (1 : Int) ≤ (n : Int) := by omega
        have v3 : (n : Int) - 1 < (n : Int) := by omega
        have v4 : ((n : Int) - 1).toNat = n - 1 := by omega
        have HMC := Lib.hid (HSR.out wr HBW.out)
        clear hxl hcs hrs hlast hmx hm hnm h0 hles
        go_wp2_with fail
        refine HMC.out.mono ?_
        rw [HMX.out]
        rintro e w5 ⟨A5, c5, rfl, hown⟩
        have hb5 := hown.bel
        have q1 := cell_below hb5 q0
        have HRM5 := Lib.hid (HRM.out.below hb5)
        have HR5 := Lib.hid hown.reads
        have HBW5 := Lib.hid (below_then HBW.out hb5)
        rw [HNM.out]
        clear hown hb5 q0 HMC
        go_wp2_with fail
        refine (rsame_len m m _ _ HNM.out HNM.out A5 As c5 cs _ HR5.out HRM5.out (by rw [HNM.out]; omega) (by rw [HNM.out]; omega)).mono ?_
        rw [show decide (m = m) = true by simp]
        rintro e w6 ⟨rfl, hb6⟩
        have HBW6 := Lib.hid (below_then HBW5.out hb6)
        clear hb6 q1
        go_wp2_with fail
        refine (known_then w _ HBW6.out HT.out).mono ?_
        rintro e w7 ⟨rfl, hB7⟩
        go_wp2
        go_ret
        exact ⟨rfl, hB7⟩
theorem osorts_row (C : Option Addr) (c : Nat) (ls : List (List CellD)) (w : World) (hT : Tabs w) (hck : ls.length ≤ c) (hr : Reads2 w C ls) (hf : Fine2 ls) (hn : ls.length * 24 ≤ 140737488351232) :
    Calls Tryd.prog 6 #[.slice C ls.length c] w fun e w' => e = .returned (.bool true) ∧ Below w.heap.size w w' :=
  osorts_any ls C c ls.length rfl w hr hf hn hT
end Go.Proofs.YtfeaolnklooanaaDoor.Tm
