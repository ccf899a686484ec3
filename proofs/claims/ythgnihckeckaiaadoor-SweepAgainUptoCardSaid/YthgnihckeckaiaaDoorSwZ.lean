/- Sweep's law: pairs: the walk. -/
import Derived.Test.YthgnihckeckaiaaDoorSwY
import Derived.BigQuiet
import Derived.Maps.AppendAt
import Derived.OwnWalk
namespace Go.Proofs.YthgnihckeckaiaaDoor.Tm
open Go.RowKit Go.Shelf
set_option linter.unusedVariables false
set_option linter.unusedSimpArgs false

theorem map_at {F : List Int} {f : Int → Int} {q : Nat} (h : q < F.length) (h' : q < (F.map f).length) : (F.map f)[q] = f F[q] := List.getElem_map f
theorem row_map {w : World} {A : Option Addr} {F : List Int} {f : Int → Int} (h : WReads w A (F.map f)) {q : Nat} (hq : q < F.length) : ∃ b o, A = some ⟨b, o, none⟩ ∧ w.cell? ⟨b, o + q, none⟩ = some (.int .u64 (f F[q])) := by
  obtain ⟨b, o, e, hc⟩ := h q (by rw [List.length_map]; exact hq)
  exact ⟨b, o, e, by rw [← map_at (f := f) hq (by rw [List.length_map]; exact hq)]; exact hc⟩
set_option maxRecDepth 10000 in
set_option maxHeartbeats 16000000 in
theorem pairs_any (w : World) (O O' : Nat → Prop) (ba tb room room' : Nat) (L L' : List ObjA) (R : List Int) (f : Int → Int) (X : List Int) (A B : Option Addr) (ca cb : Nat) (hA : ArAt w O ba room L) (hB : ArAt w O' tb room' L') (H : HomW L L' R f) (hx : ∀ x ∈ X, FindOk L x ∧ (ptrW x = true → x ∈ R)) (hrX : WReads w A X) (hrY : WReads w B (X.map f)) (hl : X.length ≤ 1048576) :
    Calls Tryd.prog 56 #[.pointer (some ⟨ba, 0, none⟩), .pointer (some ⟨tb, 0, none⟩), .slice A X.length ca, .slice B X.length cb] w fun e V => e = .returned (.bool true) ∧ Below w.heap.size w V := by
  have hlims := hA.lims
  have hll := hA.wf.len
  have hRl := H.met.len
  have HA := Lib.hid hA
  have HB := Lib.hid hB
  have HH := Lib.hid H
  have HX := Lib.hid hx
  have HRX := Lib.hid hrX
  have HRY := Lib.hid hrY
  have HWF := Lib.hid hA.wf
  have hlb : ((X.length : Int) != (X.length : Int)) = false := by simp
  obtain ⟨i0, hi, hz0, hz1, hz2⟩ := info_parts word_info
  clear hA hB H hx hrX hrY
  go_enter Tryd.func56, Tryd.ntmps56
  go_wp2_with (first
    | (at_builtin
       refine wpList_app _ rfl (.tmp 28) (.tmp 29) _ rfl w.heap.size 27 i0 (.int .u64 0) 1 8 Tryd.underlying31 hi hz0 hz1 hz2 rfl (by decide) (.slice none 0 0) 0 [] rfl (row_nil _ _ _ _) A X.length ca (encW X) rfl (Src.of_wreads HRX.out) (by unfold maxLen; omega) (by omega) (Nat.le_refl _) ?_
       intro v3 w3 hown3 hgrow3 hat3
       have hB3 : Below w.heap.size w w3 := (Below.refl _ _).grown hgrow3 (Nat.le_refl _) (fun k e => by simp [Value.ownBlock] at e)
       have HB3 := Lib.hid hB3
       have HG3 := Lib.hid hgrow3
       have HT3 := Lib.hid hat3
       have HO3 := Lib.hid hown3
       rw [Nat.zero_add] at hown3
       obtain ⟨A3, c3, rfl⟩ := row_slice hown3
       have hs3 := hB3.size)
    | (at_builtin
       refine wpList_app _ rfl (.tmp 31) (.tmp 32) _ rfl w.heap.size 27 i0 (.int .u64 0) 1 8 Tryd.underlying31 hi hz0 hz1 hz2 rfl (by decide) (.slice none 0 0) 0 [] rfl (row_nil _ _ _ _) B X.length cb (encW (X.map f)) rfl (by have h := Src.of_wreads (HRY.out.below HB3.out); rw [List.length_map] at h; exact h) (by unfold maxLen; omega) (by omega) (by omega) ?_
       intro v4 w4 hown4 hgrow4 hat4
       have HG4 := Lib.hid hgrow4
       have HT4 := Lib.hid hat4
       have HO4 := Lib.hid hown4
       rw [Nat.zero_add] at hown4
       obtain ⟨A4, c4, rfl⟩ := row_slice hown4))
  have HS0 : Hid (LrRep w w4 X (X.map f) (.slice A3 X.length c3) (.slice A4 X.length c4)) := Lib.hid (by
    have h0 : LrRep w w [] [] (.slice none 0 0) (.slice none 0 0) := ⟨Below.refl _ _, row_nil _ _ _ _, row_nil _ _ _ _, fun k hk => by simp [Value.ownBlock] at hk⟩
    have h1 := h0.mores (P := X) (Below.refl _ _) HG3.out HO3.out HT3.out
    exact h1.pushs (P := X.map f) (Below.refl _ _) HG4.out (by have h := HO4.out; rw [List.length_map]; exact h) HT4.out)
  have HN0 : Hid (PrNow L L' R f X.length 0 X) := Lib.hid (PrNow.start HX.out)
  clear hown3 hgrow3 hat3 hown4 hgrow4 hat4 hB3 HG3 HT3 HO3 HG4 HT4 HO4
  go_loopw [9, 10, 11] (fun vF vT i wr => ∃ (t : Nat) (F : List Int), i = .int .i64 (t : Int) ∧ Hid (LrRep w wr F (F.map f) vF vT) ∧ Hid (PrNow L L' R f X.length t F)) (fun vF vT i wr => X.length + 255 * R.length + 1 - (intOf i).toNat)
  case atStart => exact ⟨0, X, rfl, HS0, HN0⟩
  case round =>
    clear HS0 HN0
    obtain ⟨t, F, rfl, hS, hN⟩ := hrel
    obtain ⟨wo, hwo⟩ : ∃ W, W = wr := ⟨_, rfl⟩
    subst hwo
    obtain ⟨AF, cF, hvF⟩ := row_slice hS.out.out
    subst hvF
    obtain ⟨AT, cT, hvT⟩ := row_slice hS.out.stk
    rw [List.length_map] at hvT
    subst hvT
    have hFb := hN.out.bnd
    have htF := hN.out.le
    have ht0 : (0 : Int) ≤ (t : Int) := Int.natCast_nonneg _
    by_cases hlt : t < F.length
    · have hok := hN.out.ok F[t] (List.getElem_mem hlt)
      obtain ⟨gF, oF, hAF, p0⟩ := (WReads.of_row hS.out.out) t hlt
      obtain ⟨gT, oT, hAT, p1⟩ := row_map (WReads.of_row (show wo.ownsRow w.heap.size 27 1 (.slice AT (F.map f).length cT) (F.map f).length (encW (F.map f)) from by have h := hS.out.stk; rw [List.length_map] at h ⊢; exact h)) hlt
      have HRF := Lib.hid (WReads.of_row hS.out.out)
      have HRT := Lib.hid (WReads.of_row (show wo.ownsRow w.heap.size 27 1 (.slice AT (F.map f).length cT) (F.map f).length (encW (F.map f)) from by have h := hS.out.stk; rw [List.length_map] at h ⊢; exact h))
      subst hAF
      subst hAT
      have ht1 : (t : Int) < (F.length : Int) := by omega
      have hbl : decide ((t : Int) < (F.length : Int)) = true := decide_eq_true ht1
      have hwt : IntKind.i64.wrap ((t : Int) + 1) = (t : Int) + 1 := by rw [IntKind.wrap_i64]; omega
      have hwt2 : IntKind.i64.wrap ((t : Int) + 1 - 1) = (t : Int) := by rw [IntKind.wrap_i64]; omega
      have HEL := Lib.hid (show ∃ v, F[t] = v from ⟨_, rfl⟩)
      obtain ⟨v, hv⟩ : ∃ v, F[t] = v := ⟨_, rfl⟩
      have HV := Lib.hid hv
      rw [hv] at hok p0 p1
      obtain ⟨c, ps, hs⟩ := find_seen hok.1
      obtain ⟨j1, j2, j3⟩ := HH.out.seen v c ps hok.1 hok.2 hs
      have hce := acell_any wo O ba room L v hok.1.2.1 hok.1.2.2 (HA.out.below hS.out.base)
      have hce2 := fun W (hb : Below wo.heap.size wo W) => acell_any W O' tb room' L' (f v) j3.2.1 j3.2.2 (HB.out.below (below_then hS.out.base hb))
      rw [hs] at hce
      simp only [j1] at hce2
      simp only [cellS, errS, CellD.agg] at hce hce2
      have HCE2 := Lib.hid hce2
      have HOK := Lib.hid hok
      have HJ3 := Lib.hid j3
      have hct : (c.text.toList == c.text.toList) = true := by simp
      have hck : (c.kind == c.kind) = true := by simp
      have hcn : (c.n == c.n) = true := by simp
      clear hs j1 j2 j3 hce2 hok hv HEL
      go_wp2_with fail
      refine hce.mono ?_
      rintro e w5 ⟨rfl, hb5⟩
      have HB5 := Lib.hid (below_alloc' hb5 (.cells #[.int .i64 c.kind, .int .i64 c.n, .string c.text] 40))
      have BC5 : BlkIs (w5.alloc (.cells #[.int .i64 c.kind, .int .i64 c.n, .string c.text] 40)) w5.heap.size #[.int .i64 c.kind, .int .i64 c.n, .string c.text] 40 := heap_new w5 _
      have HBC5 := Lib.hid BC5
      have hc2 := HCE2.out _ HB5.out
      clear hce hb5 BC5
      go_wp2_with fail
      refine hc2.mono ?_
      rintro e w6 ⟨rfl, hb6⟩
      have HB6 := Lib.hid (below_alloc' (below_then HB5.out hb6) (.cells #[.int .i64 c.kind, .int .i64 c.n, .string c.text] 40))
      have BC6 := (HBC5.out.below hb6).below (below_one w6 (.cells #[.int .i64 c.kind, .int .i64 c.n, .string c.text] 40))
      have x0 := BC6.cell 0 (v := .int .i64 c.kind) rfl
      have x1 := BC6.cell 1 (v := .int .i64 c.n) rfl
      have x2 := BC6.cell 2 (v := .string c.text) rfl
      have hkd := fun W => rkind_any v W HOK.out.1.2.1 HOK.out.1.2.2
      have HKD := Lib.hid hkd
      clear hc2 hb6 BC6 hkd
      have HS7 := Lib.hid (hS.out.below HB6.out)
      have HRF7 := Lib.hid (HRF.out.below HB6.out)
      have HRT7 := Lib.hid (HRT.out.below HB6.out)
      have hs7 := HS7.out.base.size
      clear HRF HRT
      go_wp2_with fail
      clear x0 x1 x2 p0 p1 hS
      obtain ⟨w7, hw7⟩ : ∃ W, w6.alloc (.cells #[.int .i64 c.kind, .int .i64 c.n, .string c.text] 40) = W := ⟨_, rfl⟩
      simp only [hw7] at HS7 HB6 HRF7 HRT7 hs7 ⊢
      clear hw7
      rcases kd_range v with k | k | k | k | k | k
      · have hp : ptrW v = false := by unfold ptrW; rw [k]; rfl
        have hfl := HH.out.flat v hp
        have hk := HKD.out w7
        rw [k] at hk
        have HN1 := Lib.hid (hN.out.next hlt)
        have hne : (v != v) = false := by simp
        rw [hfl]
        clear hp hfl k hN
        refine hk.mono ?_
        rintro e w8 ⟨rfl, hw8⟩
        subst hw8
        go_wp2
        go_roundw
        case rel => exact ⟨t + 1, F, by go_num, HS7, HN1⟩
        case measure => simp [intOf]; omega
      · have hp : ptrW v = false := by unfold ptrW; rw [k]; rfl
        have hfl := HH.out.flat v hp
        have hk := HKD.out w7
        rw [k] at hk
        have HN1 := Lib.hid (hN.out.next hlt)
        have hne : (v != v) = false := by simp
        rw [hfl]
        clear hp hfl k hN
        refine hk.mono ?_
        rintro e w8 ⟨rfl, hw8⟩
        subst hw8
        go_wp2
        go_roundw
        case rel => exact ⟨t + 1, F, by go_num, HS7, HN1⟩
        case measure => simp [intOf]; omega
      · have hp : ptrW v = false := by unfold ptrW; rw [k]; rfl
        have hfl := HH.out.flat v hp
        have hk := HKD.out w7
        rw [k] at hk
        have HN1 := Lib.hid (hN.out.next hlt)
        have hne : (v != v) = false := by simp
        rw [hfl]
        clear hp hfl k hN
        refine hk.mono ?_
        rintro e w8 ⟨rfl, hw8⟩
        subst hw8
        go_wp2
        go_roundw
        case rel => exact ⟨t + 1, F, by go_num, HS7, HN1⟩
        case measure => simp [intOf]; omega
      · have hp : ptrW v = true := by unfold ptrW; rw [k]; rfl
        have hk := HKD.out w7
        rw [k] at hk
        have HP := Lib.hid hp
        clear k hp
        refine hk.mono ?_
        rintro e w8 ⟨rfl, hw8⟩
        subst hw8
        clear hk
        go_wp2_with fail
        go_loopw [19, 20] (fun s i wr => ∃ q : Nat, q ≤ t ∧ i = .int .i64 (q : Int) ∧ s = .bool (decide (v ∈ F.take q)) ∧ Hid (Below w8.heap.size w8 wr)) (fun s i wr => t - (intOf i).toNat)
        case atStart => exact ⟨0, Nat.zero_le _, rfl, by simp, Lib.hid (Below.refl _ _)⟩
        case round =>
          obtain ⟨q, hq, rfl, rfl, hB8⟩ := hrel
          have hq0 : (0 : Int) ≤ (q : Int) := Int.natCast_nonneg _
          by_cases hlt2 : q < t
          · have hqF : q < F.length := by omega
            have hqi : (q : Int) < (F.length : Int) := by omega
            have hql : decide ((q : Int) < (t : Int)) = true := decide_eq_true (by omega)
            have hqt : (q : Int) < (t : Int) := by omega
            have hwq : IntKind.i64.wrap ((q : Int) + 1) = (q : Int) + 1 := by rw [IntKind.wrap_i64]; omega
            obtain ⟨b1, o1, hA1, p0⟩ := (HRF7.out.below hB8.out) q hqF
            obtain ⟨b2, o2, hA2, p1⟩ := row_map (HRT7.out.below hB8.out) hqF
            cases hA1
            cases hA2
            have TK := Lib.hid (List.take_succ_eq_append_getElem hqF)
            have hoa := hN.out.ok F[q] (List.getElem_mem hqF)
            obtain ⟨a, ha⟩ : ∃ a, F[q] = a := ⟨_, rfl⟩
            rw [ha] at p0 p1 hoa TK
            have hbe := HH.out.beq hoa HOK.out.1 HP.out (HOK.out.2 HP.out)
            obtain ⟨fa, hfa⟩ : ∃ y, f a = y := ⟨_, rfl⟩
            obtain ⟨fv, hfv⟩ : ∃ y, f v = y := ⟨_, rfl⟩
            rw [hfa] at p1
            rw [hfa, hfv] at hbe
            rw [hfv]
            cases hsn : decide (v ∈ F.take q) with
            | true =>
              have HSE := Lib.hid (show decide (v ∈ F.take (q + 1)) = true from decide_eq_true (by rw [TK.out]; exact List.mem_append_left _ (of_decide_eq_true hsn)))
              by_cases hav : a = v
              · have e1 : (a == v) = true := by rw [hav]; simp
                rw [e1] at hbe
                clear hav ha hoa hfa hsn
                go_wp2_with fail
                go_quiet (fail)
                go_wp2
                go_roundw
                case rel => exact ⟨q + 1, by omega, by go_num, by rw [HSE.out], Lib.hid (below_drewA hB8.out _)⟩
                case measure => simp [intOf]; omega
              · have e1 : (a == v) = false := beq_eq_false_iff_ne.2 hav
                rw [e1] at hbe
                clear hav ha hoa hfa hsn
                go_wp2_with fail
                go_quiet (fail)
                go_wp2
                go_roundw
                case rel => exact ⟨q + 1, by omega, by go_num, by rw [HSE.out], Lib.hid (below_drewA hB8.out _)⟩
                case measure => simp [intOf]; omega
            | false =>
              by_cases hav : a = v
              · have e1 : (a == v) = true := by rw [hav]; simp
                have HSE := Lib.hid (show decide (v ∈ F.take (q + 1)) = true from decide_eq_true (by rw [TK.out, hav]; simp))
                rw [e1] at hbe
                clear hav ha hoa hfa hsn
                go_wp2_with fail
                go_quiet (fail)
                go_wp2
                go_roundw
                case rel => exact ⟨q + 1, by omega, by go_num, by rw [HSE.out], Lib.hid (below_drewA hB8.out _)⟩
                case measure => simp [intOf]; omega
              · have e1 : (a == v) = false := beq_eq_false_iff_ne.2 hav
                have HSE := Lib.hid (show decide (v ∈ F.take (q + 1)) = false from decide_eq_false (fun hm => by
                  rw [TK.out] at hm
                  rcases List.mem_append.1 hm with hm | hm
                  · exact of_decide_eq_false hsn hm
                  · exact hav (List.mem_singleton.1 hm).symm))
                rw [e1] at hbe
                clear hav ha hoa hfa hsn
                go_wp2_with fail
                go_quiet (fail)
                go_wp2
                go_roundw
                case rel => exact ⟨q + 1, by omega, by go_num, by rw [HSE.out], Lib.hid (below_drewA hB8.out _)⟩
                case measure => simp [intOf]; omega
          · obtain rfl : q = t := by omega
            have hql : decide ((q : Int) < (q : Int)) = false := decide_eq_false (by omega)
            have HS8 := Lib.hid (HS7.out.below hB8.out)
            cases hsn : decide (v ∈ F.take q) with
            | true =>
              have HN1 := Lib.hid (hN.out.next hlt)
              clear hsn hlt2 hN
              go_wp2
              go_roundw
              case rel => exact ⟨q + 1, F, by go_num, HS8, HN1⟩
              case measure => simp [intOf]; omega
            | false =>
              have hpv : ptrW F[q] = true := by rw [HV.out]; exact HP.out
              have hnv : F[q] ∉ F.take q := by rw [HV.out]; exact of_decide_eq_false hsn
              have HN1 := Lib.hid (hN.out.more HWF.out HH.out hlt hpv hnv)
              have hh1 := holds_any wr O ba room L v (HA.out.below HS8.out.base) HOK.out.1.2.1 HOK.out.1.2.2
              have hh2 := fun W (hb : Below w.heap.size w W) => holds_any W O' tb room' L' (f v) (HB.out.below hb) HJ3.out.2.1 HJ3.out.2.2
              have hpf := (HH.out.ptr HOK.out.1 HOK.out.2).2.2.1
              simp only [hpf] at hh2
              have hpl := parts_len HWF.out v
              rw [HV.out] at HN1
              obtain ⟨P, hP⟩ : ∃ P, partsW L v = P := ⟨_, rfl⟩
              rw [hP] at HN1 hh1 hpl
              simp only [hP, List.length_map] at hh2
              have HH2 := Lib.hid hh2
              clear hsn hpv hnv hN hlt2 hpf hP hh2
              go_wp2_with fail
              refine hh1.mono ?_
              rintro e w10 ⟨AP, cP, rfl, hH1⟩
              have HS10 := Lib.hid (HS8.out.below hH1.base)
              have HP10 := Lib.hid (WReads.of_row hH1.row)
              have hh2 := HH2.out w10 HS10.out.base
              have HAW1 := Lib.hid (show AwayV AP (.slice (some ⟨gF, oF, none⟩) F.length cF) from fun g' o' e q' => by
                have h1 := row_lt HS8.out.out g' q'
                subst e
                have h2 := row_base hH1.row g' (by simp [Value.ownBlock])
                omega)
              clear hh1 hH1
              go_wp2_with fail
              refine hh2.mono ?_
              rintro e w11 ⟨AQ, cQ, rfl, hH2⟩
              have HS11 := Lib.hid (HS10.out.below hH2.base)
              have HP11 := Lib.hid (HP10.out.below hH2.base)
              have HQ11 := Lib.hid (show WReads w11 AQ (P.map f) from by have h := hH2.row; rw [show P.length = (P.map f).length by rw [List.length_map]] at h; exact WReads.of_row h)
              have HAW2 := Lib.hid (show AwayV AQ (.slice (some ⟨gF, oF, none⟩) F.length cF) from fun g' o' e q' => by
                have h1 := row_lt HS10.out.out g' q'
                subst e
                have h2 := row_base hH2.row g' (by simp [Value.ownBlock])
                omega)
              have hs11 := HS11.out.base.size
              have hpb : ((P.length : Int) != (P.length : Int)) = false := by simp
              have HROWF := Lib.hid HS11.out.out
              clear hh2 hH2
              go_wp2_with (first
                | (at_builtin
                   refine wpList_app _ rfl (.tmp 138) (.tmp 139) _ rfl w.heap.size 27 i0 (.int .u64 0) 1 8 Tryd.underlying31 hi hz0 hz1 hz2 rfl (by decide) (.slice (some ⟨gF, oF, none⟩) F.length cF) F.length (encW F) rfl HROWF.out AP P.length cP (encW P) rfl (Src.of_wreads HP11.out) (by unfold maxLen; omega) (by omega) (by omega) ?_
                   intro v12 w12 hown12 hgrow12 hat12
                   have HS12 := Lib.hid (HS11.out.mores (P := P) (Below.refl _ _) hgrow12 hown12 hat12)
                   have HQ12 := Lib.hid (HQ11.out.grown hgrow12 HAW2.out)
                   have hs12 := hgrow12.size
                   have HROWT := Lib.hid (show w12.ownsRow w.heap.size 27 1 (.slice (some ⟨gT, oT, none⟩) F.length cT) F.length (encW (F.map f)) from by have h := HS12.out.stk; rw [List.length_map] at h; exact h)
                   obtain ⟨A12, c12, rfl⟩ := row_slice hown12)
                | (at_builtin
                   refine wpList_app _ rfl (.tmp 141) (.tmp 142) _ rfl w.heap.size 27 i0 (.int .u64 0) 1 8 Tryd.underlying31 hi hz0 hz1 hz2 rfl (by decide) (.slice (some ⟨gT, oT, none⟩) F.length cT) F.length (encW (F.map f)) rfl HROWT.out AQ P.length cQ (encW (P.map f)) rfl (by have h := Src.of_wreads HQ12.out; rw [List.length_map] at h; exact h) (by unfold maxLen; omega) (by omega) (by omega) ?_
                   intro v13 w13 hown13 hgrow13 hat13
                   have HS13 := Lib.hid (HS12.out.pushs (P := P.map f) (Below.refl _ _) hgrow13 (by rw [List.length_map, List.length_map]; exact hown13) hat13)))
              go_roundw
              case rel => exact ⟨q + 1, F ++ P, by go_num, Lib.hid (by rw [List.map_append]; exact HS13.out), HN1⟩
              case measure => simp [intOf]; omega
      · have hp : ptrW v = true := by unfold ptrW; rw [k]; rfl
        have hk := HKD.out w7
        rw [k] at hk
        have HP := Lib.hid hp
        clear k hp
        refine hk.mono ?_
        rintro e w8 ⟨rfl, hw8⟩
        subst hw8
        clear hk
        go_wp2_with fail
        go_loopw [19, 20] (fun s i wr => ∃ q : Nat, q ≤ t ∧ i = .int .i64 (q : Int) ∧ s = .bool (decide (v ∈ F.take q)) ∧ Hid (Below w8.heap.size w8 wr)) (fun s i wr => t - (intOf i).toNat)
        case atStart => exact ⟨0, Nat.zero_le _, rfl, by simp, Lib.hid (Below.refl _ _)⟩
        case round =>
          obtain ⟨q, hq, rfl, rfl, hB8⟩ := hrel
          have hq0 : (0 : Int) ≤ (q : Int) := Int.natCast_nonneg _
          by_cases hlt2 : q < t
          · have hqF : q < F.length := by omega
            have hqi : (q : Int) < (F.length : Int) := by omega
            have hql : decide ((q : Int) < (t : Int)) = true := decide_eq_true (by omega)
            have hqt : (q : Int) < (t : Int) := by omega
            have hwq : IntKind.i64.wrap ((q : Int) + 1) = (q : Int) + 1 := by rw [IntKind.wrap_i64]; omega
            obtain ⟨b1, o1, hA1, p0⟩ := (HRF7.out.below hB8.out) q hqF
            obtain ⟨b2, o2, hA2, p1⟩ := row_map (HRT7.out.below hB8.out) hqF
            cases hA1
            cases hA2
            have TK := Lib.hid (List.take_succ_eq_append_getElem hqF)
            have hoa := hN.out.ok F[q] (List.getElem_mem hqF)
            obtain ⟨a, ha⟩ : ∃ a, F[q] = a := ⟨_, rfl⟩
            rw [ha] at p0 p1 hoa TK
            have hbe := HH.out.beq hoa HOK.out.1 HP.out (HOK.out.2 HP.out)
            obtain ⟨fa, hfa⟩ : ∃ y, f a = y := ⟨_, rfl⟩
            obtain ⟨fv, hfv⟩ : ∃ y, f v = y := ⟨_, rfl⟩
            rw [hfa] at p1
            rw [hfa, hfv] at hbe
            rw [hfv]
            cases hsn : decide (v ∈ F.take q) with
            | true =>
              have HSE := Lib.hid (show decide (v ∈ F.take (q + 1)) = true from decide_eq_true (by rw [TK.out]; exact List.mem_append_left _ (of_decide_eq_true hsn)))
              by_cases hav : a = v
              · have e1 : (a == v) = true := by rw [hav]; simp
                rw [e1] at hbe
                clear hav ha hoa hfa hsn
                go_wp2_with fail
                go_quiet (fail)
                go_wp2
                go_roundw
                case rel => exact ⟨q + 1, by omega, by go_num, by rw [HSE.out], Lib.hid (below_drewA hB8.out _)⟩
                case measure => simp [intOf]; omega
              · have e1 : (a == v) = false := beq_eq_false_iff_ne.2 hav
                rw [e1] at hbe
                clear hav ha hoa hfa hsn
                go_wp2_with fail
                go_quiet (fail)
                go_wp2
                go_roundw
                case rel => exact ⟨q + 1, by omega, by go_num, by rw [HSE.out], Lib.hid (below_drewA hB8.out _)⟩
                case measure => simp [intOf]; omega
            | false =>
              by_cases hav : a = v
              · have e1 : (a == v) = true := by rw [hav]; simp
                have HSE := Lib.hid (show decide (v ∈ F.take (q + 1)) = true from decide_eq_true (by rw [TK.out, hav]; simp))
                rw [e1] at hbe
                clear hav ha hoa hfa hsn
                go_wp2_with fail
                go_quiet (fail)
                go_wp2
                go_roundw
                case rel => exact ⟨q + 1, by omega, by go_num, by rw [HSE.out], Lib.hid (below_drewA hB8.out _)⟩
                case measure => simp [intOf]; omega
              · have e1 : (a == v) = false := beq_eq_false_iff_ne.2 hav
                have HSE := Lib.hid (show decide (v ∈ F.take (q + 1)) = false from decide_eq_false (fun hm => by
                  rw [TK.out] at hm
                  rcases List.mem_append.1 hm with hm | hm
                  · exact of_decide_eq_false hsn hm
                  · exact hav (List.mem_singleton.1 hm).symm))
                rw [e1] at hbe
                clear hav ha hoa hfa hsn
                go_wp2_with fail
                go_quiet (fail)
                go_wp2
                go_roundw
                case rel => exact ⟨q + 1, by omega, by go_num, by rw [HSE.out], Lib.hid (below_drewA hB8.out _)⟩
                case measure => simp [intOf]; omega
          · obtain rfl : q = t := by omega
            have hql : decide ((q : Int) < (q : Int)) = false := decide_eq_false (by omega)
            have HS8 := Lib.hid (HS7.out.below hB8.out)
            cases hsn : decide (v ∈ F.take q) with
            | true =>
              have HN1 := Lib.hid (hN.out.next hlt)
              clear hsn hlt2 hN
              go_wp2
              go_roundw
              case rel => exact ⟨q + 1, F, by go_num, HS8, HN1⟩
              case measure => simp [intOf]; omega
            | false =>
              have hpv : ptrW F[q] = true := by rw [HV.out]; exact HP.out
              have hnv : F[q] ∉ F.take q := by rw [HV.out]; exact of_decide_eq_false hsn
              have HN1 := Lib.hid (hN.out.more HWF.out HH.out hlt hpv hnv)
              have hh1 := holds_any wr O ba room L v (HA.out.below HS8.out.base) HOK.out.1.2.1 HOK.out.1.2.2
              have hh2 := fun W (hb : Below w.heap.size w W) => holds_any W O' tb room' L' (f v) (HB.out.below hb) HJ3.out.2.1 HJ3.out.2.2
              have hpf := (HH.out.ptr HOK.out.1 HOK.out.2).2.2.1
              simp only [hpf] at hh2
              have hpl := parts_len HWF.out v
              rw [HV.out] at HN1
              obtain ⟨P, hP⟩ : ∃ P, partsW L v = P := ⟨_, rfl⟩
              rw [hP] at HN1 hh1 hpl
              simp only [hP, List.length_map] at hh2
              have HH2 := Lib.hid hh2
              clear hsn hpv hnv hN hlt2 hpf hP hh2
              go_wp2_with fail
              refine hh1.mono ?_
              rintro e w10 ⟨AP, cP, rfl, hH1⟩
              have HS10 := Lib.hid (HS8.out.below hH1.base)
              have HP10 := Lib.hid (WReads.of_row hH1.row)
              have hh2 := HH2.out w10 HS10.out.base
              have HAW1 := Lib.hid (show AwayV AP (.slice (some ⟨gF, oF, none⟩) F.length cF) from fun g' o' e q' => by
                have h1 := row_lt HS8.out.out g' q'
                subst e
                have h2 := row_base hH1.row g' (by simp [Value.ownBlock])
                omega)
              clear hh1 hH1
              go_wp2_with fail
              refine hh2.mono ?_
              rintro e w11 ⟨AQ, cQ, rfl, hH2⟩
              have HS11 := Lib.hid (HS10.out.below hH2.base)
              have HP11 := Lib.hid (HP10.out.below hH2.base)
              have HQ11 := Lib.hid (show WReads w11 AQ (P.map f) from by have h := hH2.row; rw [show P.length = (P.map f).length by rw [List.length_map]] at h; exact WReads.of_row h)
              have HAW2 := Lib.hid (show AwayV AQ (.slice (some ⟨gF, oF, none⟩) F.length cF) from fun g' o' e q' => by
                have h1 := row_lt HS10.out.out g' q'
                subst e
                have h2 := row_base hH2.row g' (by simp [Value.ownBlock])
                omega)
              have hs11 := HS11.out.base.size
              have hpb : ((P.length : Int) != (P.length : Int)) = false := by simp
              have HROWF := Lib.hid HS11.out.out
              clear hh2 hH2
              go_wp2_with (first
                | (at_builtin
                   refine wpList_app _ rfl (.tmp 138) (.tmp 139) _ rfl w.heap.size 27 i0 (.int .u64 0) 1 8 Tryd.underlying31 hi hz0 hz1 hz2 rfl (by decide) (.slice (some ⟨gF, oF, none⟩) F.length cF) F.length (encW F) rfl HROWF.out AP P.length cP (encW P) rfl (Src.of_wreads HP11.out) (by unfold maxLen; omega) (by omega) (by omega) ?_
                   intro v12 w12 hown12 hgrow12 hat12
                   have HS12 := Lib.hid (HS11.out.mores (P := P) (Below.refl _ _) hgrow12 hown12 hat12)
                   have HQ12 := Lib.hid (HQ11.out.grown hgrow12 HAW2.out)
                   have hs12 := hgrow12.size
                   have HROWT := Lib.hid (show w12.ownsRow w.heap.size 27 1 (.slice (some ⟨gT, oT, none⟩) F.length cT) F.length (encW (F.map f)) from by have h := HS12.out.stk; rw [List.length_map] at h; exact h)
                   obtain ⟨A12, c12, rfl⟩ := row_slice hown12)
                | (at_builtin
                   refine wpList_app _ rfl (.tmp 141) (.tmp 142) _ rfl w.heap.size 27 i0 (.int .u64 0) 1 8 Tryd.underlying31 hi hz0 hz1 hz2 rfl (by decide) (.slice (some ⟨gT, oT, none⟩) F.length cT) F.length (encW (F.map f)) rfl HROWT.out AQ P.length cQ (encW (P.map f)) rfl (by have h := Src.of_wreads HQ12.out; rw [List.length_map] at h; exact h) (by unfold maxLen; omega) (by omega) (by omega) ?_
                   intro v13 w13 hown13 hgrow13 hat13
                   have HS13 := Lib.hid (HS12.out.pushs (P := P.map f) (Below.refl _ _) hgrow13 (by rw [List.length_map, List.length_map]; exact hown13) hat13)))
              go_roundw
              case rel => exact ⟨q + 1, F ++ P, by go_num, Lib.hid (by rw [List.map_append]; exact HS13.out), HN1⟩
              case measure => simp [intOf]; omega
      · have hp : ptrW v = false := by unfold ptrW; rw [k]; rfl
        have hfl := HH.out.flat v hp
        have hk := HKD.out w7
        rw [k] at hk
        have HN1 := Lib.hid (hN.out.next hlt)
        have hne : (v != v) = false := by simp
        rw [hfl]
        clear hp hfl k hN
        refine hk.mono ?_
        rintro e w8 ⟨rfl, hw8⟩
        subst hw8
        go_wp2
        go_roundw
        case rel => exact ⟨t + 1, F, by go_num, HS7, HN1⟩
        case measure => simp [intOf]; omega
    · have hbl : decide ((t : Int) < (F.length : Int)) = false := decide_eq_false (by omega)
      have hbl2 : ¬ (t : Int) < (F.length : Int) := by omega
      go_wp2
      go_ret
      exact ⟨rfl, hS.out.base⟩
end Go.Proofs.YthgnihckeckaiaaDoor.Tm
