/- layer 13: the walk of IdsPlays. -/
import Derived.Test.YtofpbiadnbbaoaaIdR
namespace Go.Proofs.Ytofpbiadnbbaoaa.Ids
open Go.RowKit
set_option linter.unusedVariables false
set_option linter.unusedSimpArgs false

theorem rNew_at (g : Int) (w : World) (h0 : 0 ≤ g) (h1 : g ≤ 17179869183) :
    Calls Try.prog 41 #[.int .i64 g] w fun e w' => ∃ r, e = .returned (.pointer (some ⟨r, 0, none⟩)) ∧ RAt w' r (fresh g 64) ∧ w.heap.size ≤ r ∧ Below w.heap.size w w' := by
  refine (rNew_yes g w h0 h1).mono ?_
  rintro e w' ⟨rfl, rfl⟩
  exact ⟨_, rfl, ⟨heap_new _ _, fresh_length g 64 (by omega)⟩, Nat.le_refl _, (Below.refl _ w).alloc (Nat.le_refl _) _⟩
theorem wrap_u64 (n : Int) : IntKind.u64.wrap n = n % 18446744073709551616 := by simp [IntKind.wrap, IntKind.bits, IntKind.signed]

theorem same_at (A B : Option Addr) (c1 c2 n1 n2 : Nat) (xs ys : List Int) (w : World) (e1 : xs.length = n1) (e2 : ys.length = n2) (hx : ∀ j (h : j < xs.length), ∃ g o, A = some ⟨g, o, none⟩ ∧ w.cell? ⟨g, o + j, none⟩ = some (.int .i64 xs[j]))
    (hy : ∀ j (h : j < ys.length), ∃ g o, B = some ⟨g, o, none⟩ ∧ w.cell? ⟨g, o + j, none⟩ = some (.int .i64 ys[j])) (hm : xs.length ≤ 1000000) (hm2 : ys.length ≤ 1000000) :
    Calls Try.prog 46 #[.slice A n1 c1, .slice B n2 c2] w fun e w' => e = .returned (.bool (xs == ys)) ∧ ∃ n, w' = w.drewN n := by
  subst e1 e2
  exact same_any A B c1 c2 xs ys w hx hy hm hm2
theorem row_cap {w : World} {base n cap : Nat} {A : Option Addr} {xs : List Value} (h : w.ownsRow base 2 1 (.slice A n cap) n xs) : n ≤ cap := by
  rcases h.2 with ⟨h', rfl⟩ | ⟨g, cap', cur, h', _, _, hc, _⟩
  · omega
  · obtain ⟨_, rfl⟩ : A = some ⟨g, 0, none⟩ ∧ cap = cap' := by simpa using h'
    exact hc
theorem reads_take {w : World} {A : Option Addr} {ys : List Int} (h : ∀ j (h : j < ys.length), ∃ g o, A = some ⟨g, o, none⟩ ∧ w.cell? ⟨g, o + j, none⟩ = some (.int .i64 ys[j])) (m : Nat) :
    ∀ j (h : j < (ys.take m).length), ∃ g o, A = some ⟨g, o, none⟩ ∧ w.cell? ⟨g, o + j, none⟩ = some (.int .i64 (ys.take m)[j]) := by
  intro j hj
  obtain ⟨g, o, e, hc⟩ := h j (by simp at hj; omega)
  exact ⟨g, o, e, by rw [List.getElem_take]; exact hc⟩

set_option maxHeartbeats 8000000 in
set_option maxRecDepth 100000 in
theorem idsPlays_yes (g : Int) (a : Option Addr) (len cap : Nat) (cut : Int) (w : World) (hs : Script64 w a len) (h0 : 0 ≤ g) (h1 : g ≤ 17179869183) (hm : len ≤ 1000000000000000) (hcut : -9223372036854775808 ≤ cut ∧ cut ≤ 9223372036854775807) :
    Calls Try.prog 9 #[.int .i64 g, .slice a len cap, .int .i64 cut] w fun e w' => e = .returned (.bool true) ∧ Below w.heap.size w w' := by
  have hS := Lib.hid hs
  clear hs
  have hCut := Lib.hid hcut
  clear hcut
  go_enter Try.func9, Try.ntmps9
  go_wp2_with fail
  refine (newPids_at g _ h0 h1).mono ?_
  rintro e w1 ⟨b, c, rfl, P1, hb, hc, B1⟩
  go_wp2_with fail
  refine (rNew_at g _ h0 h1).mono ?_
  rintro e w2 ⟨r, rfl, R2, hr, B2⟩
  have hBoth0 : Both w w2 b c r (fresh g 64) := ⟨P1.below B2, R2, pinv_fresh h0 h1, B1.trans (B2.mono B1.size), hb, hc, Nat.le_trans B1.size hr⟩
  clear P1 B1 R2 hr B2 hb hc
  go_wp2_with fail
  go_loopw [9, 10, 11] (fun v9 v10 i wr => ∃ (k : Nat) (l : List (Int × Bool)), k ≤ len ∧ i = .int .i64 k ∧ Both w wr b c r l ∧ Hid (CutRel wr c cut k v9 v10)) (fun v9 v10 i wr => len - (intOf i).toNat)
  case atStart => exact ⟨0, _, by omega, rfl, hBoth0, .inl ⟨by omega, rfl⟩⟩
  case round =>
    obtain ⟨k, l, hk, rfl, hBo, hCR⟩ := hrel
    clear hBoth0
    by_cases hlt : k < len
    · obtain ⟨x, y, hax, hc0, hyw⟩ := hS.out k hlt
      subst hax
      have hcy : wr.cell? (x.add k) = some (.int .i64 y) := (hBo.bel.cell (World.block_lt_of_cell? w _ hc0)).trans hc0
      by_cases hy0 : y = 0
      · subst hy0
        rcases take_cases l with ⟨k3, hk3, hno, hyes⟩ | hno
        · by_cases hkc : (k : Int) = cut
          · subst hkc
            go_wp2_with fail
            refine (copy_any b c l _ hBo.pt).mono ?_
            rintro e W1 ⟨b', c', rfl, Pc, hb', hc', Bc⟩
            obtain ⟨ys0, hys0⟩ := all_exists l hBo.inv
            go_wp2_with fail
            refine (rAll_at r l hBo.inv ys0 hys0 _ (hBo.rt.below Bc)).mono ?_
            rintro e W2 ⟨A1, c1, rfl, hr1, hb1⟩
            have hB0 : Both w W2 b c r l := (hBo.below Bc).below hb1
            have hcc := hBo.pt.ltc
            have hCR0 : Hid (CutRel W2 c (k : Int) (k + 1) (.pointer (some ⟨b', 0, none⟩)) (.slice A1 ys0.length c1)) := .inr ⟨by omega, b', c', l, ys0, A1, c1, _, rfl, rfl, Pc.below hb1, hBo.inv, hys0, hr1, by omega⟩
            clear hBo hCR Pc Bc hr1 hb1 hys0 hb' hc' hcc

            go_wp2_with fail
            refine (take_k b c l _ hB0.pt hB0.inv.pos k3 hk3 hno hyes).mono ?_
            rintro e W3 ⟨rfl, P3, G3⟩
            have R3 := hB0.rt.kept G3 (by simp; exact fun e => hB0.ne.2 e.symm)
            go_wp2_with fail
            refine (rTake_k r l _ R3 hB0.inv.pos k3 hk3 hno hyes).mono ?_
            rintro e W4 ⟨rfl, R4, G4⟩
            have hB1 : Both w W4 b c r (l.set k3 ((l[k3]).1, true)) := hB0.turn P3 G3 (fun _ => R4) G4 (hB0.inv.take k3 hk3 hyes)
            have hCR1 := Lib.hid ((hCR0.out.kept hB0.pt hB0.rt G3 (.inl rfl)).kept P3 R3 G4 (.inr rfl))
            generalize l.set k3 ((l[k3]).1, true) = l' at hB1
            clear hB0 hCR0 P3 G3 R3 R4 G4

            obtain ⟨ys', hys'⟩ := all_exists l' hB1.inv
            go_wp2_with fail
            refine (lawAll_at b c l' hB1.inv ys' hys' _ hB1.pt).mono ?_
            rintro e V1 ⟨A1, c1, rfl, hr1, hb1⟩
            have hD1 := hB1.below hb1
            go_wp2_with fail
            refine (rAll_at r l' hB1.inv ys' hys' _ hD1.rt).mono ?_
            rintro e V2 ⟨A2, c2, rfl, hr2, hb2⟩
            have hD2 := hD1.below hb2
            have hroom := hys'.room
            go_wp2_with fail
            refine (same_any A1 A2 c1 c2 ys' ys' _ (row_reads (row_below hr1 hb2)) (row_reads hr2) (by omega) (by omega)).mono ?_
            rintro e V3 ⟨rfl, n3, rfl⟩
            rw [beq_self_eq_true]
            have hD3 := hD2.drewN n3
            have hCR2 := Lib.hid (((hCR1.out.below hb1).below hb2).drewN n3)
            clear hB1 hD1 hD2 hCR1 hr1 hb1 hr2 hb2 hys' hroom
            go_wp2_with fail
            refine (live_any b c 0 l' _ hD3.pt).mono ?_
            rintro e V4 ⟨rfl, rfl⟩
            go_wp2_with fail
            refine (rLive_any r 0 l' _ hD3.rt).mono ?_
            rintro e V5 ⟨rfl, rfl⟩
            go_wp2
            go_roundw
            case rel => exact ⟨k + 1, l', by omega, by go_num, hD3, hCR2⟩
            case measure => simp [intOf]; omega
          · have hbe : ((k : Int) == cut) = false := beq_eq_false_iff_ne.2 hkc
            have hB0 := hBo
            have hCR0 : Hid (CutRel wr c cut (k + 1) u9 u10) := hCR.next hkc
            clear hBo hCR

            go_wp2_with fail
            refine (take_k b c l _ hB0.pt hB0.inv.pos k3 hk3 hno hyes).mono ?_
            rintro e W3 ⟨rfl, P3, G3⟩
            have R3 := hB0.rt.kept G3 (by simp; exact fun e => hB0.ne.2 e.symm)
            go_wp2_with fail
            refine (rTake_k r l _ R3 hB0.inv.pos k3 hk3 hno hyes).mono ?_
            rintro e W4 ⟨rfl, R4, G4⟩
            have hB1 : Both w W4 b c r (l.set k3 ((l[k3]).1, true)) := hB0.turn P3 G3 (fun _ => R4) G4 (hB0.inv.take k3 hk3 hyes)
            have hCR1 := Lib.hid ((hCR0.out.kept hB0.pt hB0.rt G3 (.inl rfl)).kept P3 R3 G4 (.inr rfl))
            generalize l.set k3 ((l[k3]).1, true) = l' at hB1
            clear hB0 hCR0 P3 G3 R3 R4 G4

            obtain ⟨ys', hys'⟩ := all_exists l' hB1.inv
            go_wp2_with fail
            refine (lawAll_at b c l' hB1.inv ys' hys' _ hB1.pt).mono ?_
            rintro e V1 ⟨A1, c1, rfl, hr1, hb1⟩
            have hD1 := hB1.below hb1
            go_wp2_with fail
            refine (rAll_at r l' hB1.inv ys' hys' _ hD1.rt).mono ?_
            rintro e V2 ⟨A2, c2, rfl, hr2, hb2⟩
            have hD2 := hD1.below hb2
            have hroom := hys'.room
            go_wp2_with fail
            refine (same_any A1 A2 c1 c2 ys' ys' _ (row_reads (row_below hr1 hb2)) (row_reads hr2) (by omega) (by omega)).mono ?_
            rintro e V3 ⟨rfl, n3, rfl⟩
            rw [beq_self_eq_true]
            have hD3 := hD2.drewN n3
            have hCR2 := Lib.hid (((hCR1.out.below hb1).below hb2).drewN n3)
            clear hB1 hD1 hD2 hCR1 hr1 hb1 hr2 hb2 hys' hroom
            go_wp2_with fail
            refine (live_any b c 0 l' _ hD3.pt).mono ?_
            rintro e V4 ⟨rfl, rfl⟩
            go_wp2_with fail
            refine (rLive_any r 0 l' _ hD3.rt).mono ?_
            rintro e V5 ⟨rfl, rfl⟩
            go_wp2
            go_roundw
            case rel => exact ⟨k + 1, l', by omega, by go_num, hD3, hCR2⟩
            case measure => simp [intOf]; omega
        · by_cases hkc : (k : Int) = cut
          · subst hkc
            go_wp2_with fail
            refine (copy_any b c l _ hBo.pt).mono ?_
            rintro e W1 ⟨b', c', rfl, Pc, hb', hc', Bc⟩
            obtain ⟨ys0, hys0⟩ := all_exists l hBo.inv
            go_wp2_with fail
            refine (rAll_at r l hBo.inv ys0 hys0 _ (hBo.rt.below Bc)).mono ?_
            rintro e W2 ⟨A1, c1, rfl, hr1, hb1⟩
            have hB0 : Both w W2 b c r l := (hBo.below Bc).below hb1
            have hcc := hBo.pt.ltc
            have hCR0 : Hid (CutRel W2 c (k : Int) (k + 1) (.pointer (some ⟨b', 0, none⟩)) (.slice A1 ys0.length c1)) := .inr ⟨by omega, b', c', l, ys0, A1, c1, _, rfl, rfl, Pc.below hb1, hBo.inv, hys0, hr1, by omega⟩
            clear hBo hCR Pc Bc hr1 hb1 hys0 hb' hc' hcc

            go_wp2_with fail
            refine (take_none b c l _ hB0.pt hB0.inv.pos hno).mono ?_
            rintro e W3 ⟨rfl, B3⟩
            go_wp2_with fail
            refine (rTake_none r l _ (hB0.rt.below B3) hB0.inv.pos hno).mono ?_
            rintro e W4 ⟨rfl, rfl⟩
            have hB1 := hB0.below B3
            have hCR1 := Lib.hid (hCR0.out.below B3)
            clear hB0 hCR0 B3 hno

            obtain ⟨ys', hys'⟩ := all_exists l hB1.inv
            go_wp2_with fail
            refine (lawAll_at b c l hB1.inv ys' hys' _ hB1.pt).mono ?_
            rintro e V1 ⟨A1, c1, rfl, hr1, hb1⟩
            have hD1 := hB1.below hb1
            go_wp2_with fail
            refine (rAll_at r l hB1.inv ys' hys' _ hD1.rt).mono ?_
            rintro e V2 ⟨A2, c2, rfl, hr2, hb2⟩
            have hD2 := hD1.below hb2
            have hroom := hys'.room
            go_wp2_with fail
            refine (same_any A1 A2 c1 c2 ys' ys' _ (row_reads (row_below hr1 hb2)) (row_reads hr2) (by omega) (by omega)).mono ?_
            rintro e V3 ⟨rfl, n3, rfl⟩
            rw [beq_self_eq_true]
            have hD3 := hD2.drewN n3
            have hCR2 := Lib.hid (((hCR1.out.below hb1).below hb2).drewN n3)
            clear hB1 hD1 hD2 hCR1 hr1 hb1 hr2 hb2 hys' hroom
            go_wp2_with fail
            refine (live_any b c 0 l _ hD3.pt).mono ?_
            rintro e V4 ⟨rfl, rfl⟩
            go_wp2_with fail
            refine (rLive_any r 0 l _ hD3.rt).mono ?_
            rintro e V5 ⟨rfl, rfl⟩
            go_wp2
            go_roundw
            case rel => exact ⟨k + 1, l, by omega, by go_num, hD3, hCR2⟩
            case measure => simp [intOf]; omega
          · have hbe : ((k : Int) == cut) = false := beq_eq_false_iff_ne.2 hkc
            have hB0 := hBo
            have hCR0 : Hid (CutRel wr c cut (k + 1) u9 u10) := hCR.next hkc
            clear hBo hCR

            go_wp2_with fail
            refine (take_none b c l _ hB0.pt hB0.inv.pos hno).mono ?_
            rintro e W3 ⟨rfl, B3⟩
            go_wp2_with fail
            refine (rTake_none r l _ (hB0.rt.below B3) hB0.inv.pos hno).mono ?_
            rintro e W4 ⟨rfl, rfl⟩
            have hB1 := hB0.below B3
            have hCR1 := Lib.hid (hCR0.out.below B3)
            clear hB0 hCR0 B3 hno

            obtain ⟨ys', hys'⟩ := all_exists l hB1.inv
            go_wp2_with fail
            refine (lawAll_at b c l hB1.inv ys' hys' _ hB1.pt).mono ?_
            rintro e V1 ⟨A1, c1, rfl, hr1, hb1⟩
            have hD1 := hB1.below hb1
            go_wp2_with fail
            refine (rAll_at r l hB1.inv ys' hys' _ hD1.rt).mono ?_
            rintro e V2 ⟨A2, c2, rfl, hr2, hb2⟩
            have hD2 := hD1.below hb2
            have hroom := hys'.room
            go_wp2_with fail
            refine (same_any A1 A2 c1 c2 ys' ys' _ (row_reads (row_below hr1 hb2)) (row_reads hr2) (by omega) (by omega)).mono ?_
            rintro e V3 ⟨rfl, n3, rfl⟩
            rw [beq_self_eq_true]
            have hD3 := hD2.drewN n3
            have hCR2 := Lib.hid (((hCR1.out.below hb1).below hb2).drewN n3)
            clear hB1 hD1 hD2 hCR1 hr1 hb1 hr2 hb2 hys' hroom
            go_wp2_with fail
            refine (live_any b c 0 l _ hD3.pt).mono ?_
            rintro e V4 ⟨rfl, rfl⟩
            go_wp2_with fail
            refine (rLive_any r 0 l _ hD3.rt).mono ?_
            rintro e V5 ⟨rfl, rfl⟩
            go_wp2
            go_roundw
            case rel => exact ⟨k + 1, l, by omega, by go_num, hD3, hCR2⟩
            case measure => simp [intOf]; omega
      · obtain ⟨ys, hys⟩ := all_exists l hBo.inv
        have hroom := hys.room
        by_cases hneg : y < 0 ∧ 0 < ys.length
        · obtain ⟨hneg, hpos⟩ := hneg
          have hm0 : 0 ≤ y % 18446744073709551616 % (ys.length : Int) := Int.emod_nonneg _ (by omega)
          have hm1 : y % 18446744073709551616 % (ys.length : Int) < ys.length := Int.emod_lt_of_pos _ (by omega)
          obtain ⟨q, hq⟩ := Int.eq_ofNat_of_zero_le hm0
          have hql : q < ys.length := by omega
          have hidx : wrap64 ((IntKind.u64.wrap y).tmod (ys.length : Int)) = (q : Int) := by
            rw [wrap_u64, Int.tmod_eq_emod_of_nonneg (by omega), hq]
            unfold wrap64; omega
          clear hm0 hm1 hq
          by_cases hkc : (k : Int) = cut
          · subst hkc
            go_wp2_with fail
            refine (copy_any b c l _ hBo.pt).mono ?_
            rintro e W1 ⟨b', c', rfl, Pc, hb', hc', Bc⟩
            obtain ⟨ys0, hys0⟩ := all_exists l hBo.inv
            go_wp2_with fail
            refine (rAll_at r l hBo.inv ys0 hys0 _ (hBo.rt.below Bc)).mono ?_
            rintro e W2 ⟨A1, c1, rfl, hr1, hb1⟩
            have hB0 : Both w W2 b c r l := (hBo.below Bc).below hb1
            have hcc := hBo.pt.ltc
            have hCR0 : Hid (CutRel W2 c (k : Int) (k + 1) (.pointer (some ⟨b', 0, none⟩)) (.slice A1 ys0.length c1)) := .inr ⟨by omega, b', c', l, ys0, A1, c1, _, rfl, rfl, Pc.below hb1, hBo.inv, hys0, hr1, by omega⟩
            clear hBo hCR Pc Bc hr1 hb1 hys0 hb' hc' hcc

            have HYS := Lib.hid hys
            clear hys
            go_wp2_with fail
            refine (rAll_at r l hB0.inv ys HYS.out _ hB0.rt).mono ?_
            rintro e X1 ⟨A0, c0, rfl, hr0, hb0⟩
            have hB2 := hB0.below hb0
            have hCR2 := Lib.hid (hCR0.out.below hb0)
            clear hB0 hCR0 hb0

            obtain ⟨g0, o0, hA0, hcq⟩ := row_reads hr0 q hql
            subst hA0
            have hmem := List.getElem_mem hql
            have hlive := liveP_of hB2.inv ((HYS.out.mem _).1 hmem)
            generalize ys[q] = N at hcq hlive hmem
            clear hmem

            go_wp2_with fail
            refine (free_any b c N l _ hB2.pt hB2.inv.pos hlive).mono ?_
            rintro e W3 ⟨rfl, P3, G3⟩
            have R3 := hB2.rt.kept G3 (by simp; exact fun e => hB2.ne.2 e.symm)
            go_wp2_with fail
            refine (rFree_any r N l _ R3 hlive).mono ?_
            rintro e W4 ⟨rfl, R4, G4⟩
            have hB1 : Both w W4 b c r _ := hB2.turn P3 G3 (fun _ => R4) G4 (freed_inv hB2.inv hlive)
            have hCR1 := Lib.hid ((hCR2.out.kept hB2.pt hB2.rt G3 (.inl rfl)).kept P3 R3 G4 (.inr rfl))
            generalize l.set ((N - 1) % 64).toNat ((N - 1) / 64 + 1, false) = l' at hB1
            clear hB2 hCR2 P3 G3 R3 R4 G4 hlive

            obtain ⟨ys', hys'⟩ := all_exists l' hB1.inv
            go_wp2_with fail
            refine (lawAll_at b c l' hB1.inv ys' hys' _ hB1.pt).mono ?_
            rintro e V1 ⟨A1, c1, rfl, hr1, hb1⟩
            have hD1 := hB1.below hb1
            go_wp2_with fail
            refine (rAll_at r l' hB1.inv ys' hys' _ hD1.rt).mono ?_
            rintro e V2 ⟨A2, c2, rfl, hr2, hb2⟩
            have hD2 := hD1.below hb2
            have hroom := hys'.room
            go_wp2_with fail
            refine (same_any A1 A2 c1 c2 ys' ys' _ (row_reads (row_below hr1 hb2)) (row_reads hr2) (by omega) (by omega)).mono ?_
            rintro e V3 ⟨rfl, n3, rfl⟩
            rw [beq_self_eq_true]
            have hD3 := hD2.drewN n3
            have hCR3 := Lib.hid (((hCR1.out.below hb1).below hb2).drewN n3)
            clear hB1 hD1 hD2 hCR1 hr1 hb1 hr2 hb2 hys' hroom
            go_wp2_with fail
            refine (live_any b c N l' _ hD3.pt).mono ?_
            rintro e V4 ⟨rfl, rfl⟩
            go_wp2_with fail
            refine (rLive_any r N l' _ hD3.rt).mono ?_
            rintro e V5 ⟨rfl, rfl⟩
            go_wp2
            go_roundw
            case rel => exact ⟨k + 1, l', by omega, by go_num, hD3, hCR3⟩
            case measure => simp [intOf]; omega
          · have hbe : ((k : Int) == cut) = false := beq_eq_false_iff_ne.2 hkc
            have hB0 := hBo
            have hCR0 : Hid (CutRel wr c cut (k + 1) u9 u10) := hCR.next hkc
            clear hBo hCR

            have HYS := Lib.hid hys
            clear hys
            go_wp2_with fail
            refine (rAll_at r l hB0.inv ys HYS.out _ hB0.rt).mono ?_
            rintro e X1 ⟨A0, c0, rfl, hr0, hb0⟩
            have hB2 := hB0.below hb0
            have hCR2 := Lib.hid (hCR0.out.below hb0)
            clear hB0 hCR0 hb0

            obtain ⟨g0, o0, hA0, hcq⟩ := row_reads hr0 q hql
            subst hA0
            have hmem := List.getElem_mem hql
            have hlive := liveP_of hB2.inv ((HYS.out.mem _).1 hmem)
            generalize ys[q] = N at hcq hlive hmem
            clear hmem

            go_wp2_with fail
            refine (free_any b c N l _ hB2.pt hB2.inv.pos hlive).mono ?_
            rintro e W3 ⟨rfl, P3, G3⟩
            have R3 := hB2.rt.kept G3 (by simp; exact fun e => hB2.ne.2 e.symm)
            go_wp2_with fail
            refine (rFree_any r N l _ R3 hlive).mono ?_
            rintro e W4 ⟨rfl, R4, G4⟩
            have hB1 : Both w W4 b c r _ := hB2.turn P3 G3 (fun _ => R4) G4 (freed_inv hB2.inv hlive)
            have hCR1 := Lib.hid ((hCR2.out.kept hB2.pt hB2.rt G3 (.inl rfl)).kept P3 R3 G4 (.inr rfl))
            generalize l.set ((N - 1) % 64).toNat ((N - 1) / 64 + 1, false) = l' at hB1
            clear hB2 hCR2 P3 G3 R3 R4 G4 hlive

            obtain ⟨ys', hys'⟩ := all_exists l' hB1.inv
            go_wp2_with fail
            refine (lawAll_at b c l' hB1.inv ys' hys' _ hB1.pt).mono ?_
            rintro e V1 ⟨A1, c1, rfl, hr1, hb1⟩
            have hD1 := hB1.below hb1
            go_wp2_with fail
            refine (rAll_at r l' hB1.inv ys' hys' _ hD1.rt).mono ?_
            rintro e V2 ⟨A2, c2, rfl, hr2, hb2⟩
            have hD2 := hD1.below hb2
            have hroom := hys'.room
            go_wp2_with fail
            refine (same_any A1 A2 c1 c2 ys' ys' _ (row_reads (row_below hr1 hb2)) (row_reads hr2) (by omega) (by omega)).mono ?_
            rintro e V3 ⟨rfl, n3, rfl⟩
            rw [beq_self_eq_true]
            have hD3 := hD2.drewN n3
            have hCR3 := Lib.hid (((hCR1.out.below hb1).below hb2).drewN n3)
            clear hB1 hD1 hD2 hCR1 hr1 hb1 hr2 hb2 hys' hroom
            go_wp2_with fail
            refine (live_any b c N l' _ hD3.pt).mono ?_
            rintro e V4 ⟨rfl, rfl⟩
            go_wp2_with fail
            refine (rLive_any r N l' _ hD3.rt).mono ?_
            rintro e V5 ⟨rfl, rfl⟩
            go_wp2
            go_roundw
            case rel => exact ⟨k + 1, l', by omega, by go_num, hD3, hCR3⟩
            case measure => simp [intOf]; omega
        · have hneg2 : 0 ≤ y ∨ (y < 0 ∧ ys.length = 0) := by omega
          clear hneg
          by_cases hlive : liveP l y = true
          · rcases hneg2 with hneg2 | ⟨hneg1, hneg2⟩
            · by_cases hkc : (k : Int) = cut
              · subst hkc
                go_wp2_with fail
                refine (copy_any b c l _ hBo.pt).mono ?_
                rintro e W1 ⟨b', c', rfl, Pc, hb', hc', Bc⟩
                obtain ⟨ys0, hys0⟩ := all_exists l hBo.inv
                go_wp2_with fail
                refine (rAll_at r l hBo.inv ys0 hys0 _ (hBo.rt.below Bc)).mono ?_
                rintro e W2 ⟨A1, c1, rfl, hr1, hb1⟩
                have hB0 : Both w W2 b c r l := (hBo.below Bc).below hb1
                have hcc := hBo.pt.ltc
                have hCR0 : Hid (CutRel W2 c (k : Int) (k + 1) (.pointer (some ⟨b', 0, none⟩)) (.slice A1 ys0.length c1)) := .inr ⟨by omega, b', c', l, ys0, A1, c1, _, rfl, rfl, Pc.below hb1, hBo.inv, hys0, hr1, by omega⟩
                clear hBo hCR Pc Bc hr1 hb1 hys0 hb' hc' hcc

                have HYS := Lib.hid hys
                clear hys
                go_wp2_with fail
                refine (rAll_at r l hB0.inv ys HYS.out _ hB0.rt).mono ?_
                rintro e X1 ⟨A0, c0, rfl, hr0, hb0⟩
                have hB2 := hB0.below hb0
                have hCR2 := Lib.hid (hCR0.out.below hb0)
                clear hB0 hCR0 hb0

                go_wp2_with fail
                refine (free_any b c y l _ hB2.pt hB2.inv.pos hlive).mono ?_
                rintro e W3 ⟨rfl, P3, G3⟩
                have R3 := hB2.rt.kept G3 (by simp; exact fun e => hB2.ne.2 e.symm)
                go_wp2_with fail
                refine (rFree_any r y l _ R3 hlive).mono ?_
                rintro e W4 ⟨rfl, R4, G4⟩
                have hB1 : Both w W4 b c r _ := hB2.turn P3 G3 (fun _ => R4) G4 (freed_inv hB2.inv hlive)
                have hCR1 := Lib.hid ((hCR2.out.kept hB2.pt hB2.rt G3 (.inl rfl)).kept P3 R3 G4 (.inr rfl))
                generalize l.set ((y - 1) % 64).toNat ((y - 1) / 64 + 1, false) = l' at hB1
                clear hB2 hCR2 P3 G3 R3 R4 G4 hlive

                obtain ⟨ys', hys'⟩ := all_exists l' hB1.inv
                go_wp2_with fail
                refine (lawAll_at b c l' hB1.inv ys' hys' _ hB1.pt).mono ?_
                rintro e V1 ⟨A1, c1, rfl, hr1, hb1⟩
                have hD1 := hB1.below hb1
                go_wp2_with fail
                refine (rAll_at r l' hB1.inv ys' hys' _ hD1.rt).mono ?_
                rintro e V2 ⟨A2, c2, rfl, hr2, hb2⟩
                have hD2 := hD1.below hb2
                have hroom := hys'.room
                go_wp2_with fail
                refine (same_any A1 A2 c1 c2 ys' ys' _ (row_reads (row_below hr1 hb2)) (row_reads hr2) (by omega) (by omega)).mono ?_
                rintro e V3 ⟨rfl, n3, rfl⟩
                rw [beq_self_eq_true]
                have hD3 := hD2.drewN n3
                have hCR3 := Lib.hid (((hCR1.out.below hb1).below hb2).drewN n3)
                clear hB1 hD1 hD2 hCR1 hr1 hb1 hr2 hb2 hys' hroom
                go_wp2_with fail
                refine (live_any b c y l' _ hD3.pt).mono ?_
                rintro e V4 ⟨rfl, rfl⟩
                go_wp2_with fail
                refine (rLive_any r y l' _ hD3.rt).mono ?_
                rintro e V5 ⟨rfl, rfl⟩
                go_wp2
                go_roundw
                case rel => exact ⟨k + 1, l', by omega, by go_num, hD3, hCR3⟩
                case measure => simp [intOf]; omega
              · have hbe : ((k : Int) == cut) = false := beq_eq_false_iff_ne.2 hkc
                have hB0 := hBo
                have hCR0 : Hid (CutRel wr c cut (k + 1) u9 u10) := hCR.next hkc
                clear hBo hCR

                have HYS := Lib.hid hys
                clear hys
                go_wp2_with fail
                refine (rAll_at r l hB0.inv ys HYS.out _ hB0.rt).mono ?_
                rintro e X1 ⟨A0, c0, rfl, hr0, hb0⟩
                have hB2 := hB0.below hb0
                have hCR2 := Lib.hid (hCR0.out.below hb0)
                clear hB0 hCR0 hb0

                go_wp2_with fail
                refine (free_any b c y l _ hB2.pt hB2.inv.pos hlive).mono ?_
                rintro e W3 ⟨rfl, P3, G3⟩
                have R3 := hB2.rt.kept G3 (by simp; exact fun e => hB2.ne.2 e.symm)
                go_wp2_with fail
                refine (rFree_any r y l _ R3 hlive).mono ?_
                rintro e W4 ⟨rfl, R4, G4⟩
                have hB1 : Both w W4 b c r _ := hB2.turn P3 G3 (fun _ => R4) G4 (freed_inv hB2.inv hlive)
                have hCR1 := Lib.hid ((hCR2.out.kept hB2.pt hB2.rt G3 (.inl rfl)).kept P3 R3 G4 (.inr rfl))
                generalize l.set ((y - 1) % 64).toNat ((y - 1) / 64 + 1, false) = l' at hB1
                clear hB2 hCR2 P3 G3 R3 R4 G4 hlive

                obtain ⟨ys', hys'⟩ := all_exists l' hB1.inv
                go_wp2_with fail
                refine (lawAll_at b c l' hB1.inv ys' hys' _ hB1.pt).mono ?_
                rintro e V1 ⟨A1, c1, rfl, hr1, hb1⟩
                have hD1 := hB1.below hb1
                go_wp2_with fail
                refine (rAll_at r l' hB1.inv ys' hys' _ hD1.rt).mono ?_
                rintro e V2 ⟨A2, c2, rfl, hr2, hb2⟩
                have hD2 := hD1.below hb2
                have hroom := hys'.room
                go_wp2_with fail
                refine (same_any A1 A2 c1 c2 ys' ys' _ (row_reads (row_below hr1 hb2)) (row_reads hr2) (by omega) (by omega)).mono ?_
                rintro e V3 ⟨rfl, n3, rfl⟩
                rw [beq_self_eq_true]
                have hD3 := hD2.drewN n3
                have hCR3 := Lib.hid (((hCR1.out.below hb1).below hb2).drewN n3)
                clear hB1 hD1 hD2 hCR1 hr1 hb1 hr2 hb2 hys' hroom
                go_wp2_with fail
                refine (live_any b c y l' _ hD3.pt).mono ?_
                rintro e V4 ⟨rfl, rfl⟩
                go_wp2_with fail
                refine (rLive_any r y l' _ hD3.rt).mono ?_
                rintro e V5 ⟨rfl, rfl⟩
                go_wp2
                go_roundw
                case rel => exact ⟨k + 1, l', by omega, by go_num, hD3, hCR3⟩
                case measure => simp [intOf]; omega
            · by_cases hkc : (k : Int) = cut
              · subst hkc
                go_wp2_with fail
                refine (copy_any b c l _ hBo.pt).mono ?_
                rintro e W1 ⟨b', c', rfl, Pc, hb', hc', Bc⟩
                obtain ⟨ys0, hys0⟩ := all_exists l hBo.inv
                go_wp2_with fail
                refine (rAll_at r l hBo.inv ys0 hys0 _ (hBo.rt.below Bc)).mono ?_
                rintro e W2 ⟨A1, c1, rfl, hr1, hb1⟩
                have hB0 : Both w W2 b c r l := (hBo.below Bc).below hb1
                have hcc := hBo.pt.ltc
                have hCR0 : Hid (CutRel W2 c (k : Int) (k + 1) (.pointer (some ⟨b', 0, none⟩)) (.slice A1 ys0.length c1)) := .inr ⟨by omega, b', c', l, ys0, A1, c1, _, rfl, rfl, Pc.below hb1, hBo.inv, hys0, hr1, by omega⟩
                clear hBo hCR Pc Bc hr1 hb1 hys0 hb' hc' hcc

                have HYS := Lib.hid hys
                clear hys
                go_wp2_with fail
                refine (rAll_at r l hB0.inv ys HYS.out _ hB0.rt).mono ?_
                rintro e X1 ⟨A0, c0, rfl, hr0, hb0⟩
                have hB2 := hB0.below hb0
                have hCR2 := Lib.hid (hCR0.out.below hb0)
                clear hB0 hCR0 hb0

                go_wp2_with fail
                refine (free_any b c y l _ hB2.pt hB2.inv.pos hlive).mono ?_
                rintro e W3 ⟨rfl, P3, G3⟩
                have R3 := hB2.rt.kept G3 (by simp; exact fun e => hB2.ne.2 e.symm)
                go_wp2_with fail
                refine (rFree_any r y l _ R3 hlive).mono ?_
                rintro e W4 ⟨rfl, R4, G4⟩
                have hB1 : Both w W4 b c r _ := hB2.turn P3 G3 (fun _ => R4) G4 (freed_inv hB2.inv hlive)
                have hCR1 := Lib.hid ((hCR2.out.kept hB2.pt hB2.rt G3 (.inl rfl)).kept P3 R3 G4 (.inr rfl))
                generalize l.set ((y - 1) % 64).toNat ((y - 1) / 64 + 1, false) = l' at hB1
                clear hB2 hCR2 P3 G3 R3 R4 G4 hlive

                obtain ⟨ys', hys'⟩ := all_exists l' hB1.inv
                go_wp2_with fail
                refine (lawAll_at b c l' hB1.inv ys' hys' _ hB1.pt).mono ?_
                rintro e V1 ⟨A1, c1, rfl, hr1, hb1⟩
                have hD1 := hB1.below hb1
                go_wp2_with fail
                refine (rAll_at r l' hB1.inv ys' hys' _ hD1.rt).mono ?_
                rintro e V2 ⟨A2, c2, rfl, hr2, hb2⟩
                have hD2 := hD1.below hb2
                have hroom := hys'.room
                go_wp2_with fail
                refine (same_any A1 A2 c1 c2 ys' ys' _ (row_reads (row_below hr1 hb2)) (row_reads hr2) (by omega) (by omega)).mono ?_
                rintro e V3 ⟨rfl, n3, rfl⟩
                rw [beq_self_eq_true]
                have hD3 := hD2.drewN n3
                have hCR3 := Lib.hid (((hCR1.out.below hb1).below hb2).drewN n3)
                clear hB1 hD1 hD2 hCR1 hr1 hb1 hr2 hb2 hys' hroom
                go_wp2_with fail
                refine (live_any b c y l' _ hD3.pt).mono ?_
                rintro e V4 ⟨rfl, rfl⟩
                go_wp2_with fail
                refine (rLive_any r y l' _ hD3.rt).mono ?_
                rintro e V5 ⟨rfl, rfl⟩
                go_wp2
                go_roundw
                case rel => exact ⟨k + 1, l', by omega, by go_num, hD3, hCR3⟩
                case measure => simp [intOf]; omega
              · have hbe : ((k : Int) == cut) = false := beq_eq_false_iff_ne.2 hkc
                have hB0 := hBo
                have hCR0 : Hid (CutRel wr c cut (k + 1) u9 u10) := hCR.next hkc
                clear hBo hCR

                have HYS := Lib.hid hys
                clear hys
                go_wp2_with fail
                refine (rAll_at r l hB0.inv ys HYS.out _ hB0.rt).mono ?_
                rintro e X1 ⟨A0, c0, rfl, hr0, hb0⟩
                have hB2 := hB0.below hb0
                have hCR2 := Lib.hid (hCR0.out.below hb0)
                clear hB0 hCR0 hb0

                go_wp2_with fail
                refine (free_any b c y l _ hB2.pt hB2.inv.pos hlive).mono ?_
                rintro e W3 ⟨rfl, P3, G3⟩
                have R3 := hB2.rt.kept G3 (by simp; exact fun e => hB2.ne.2 e.symm)
                go_wp2_with fail
                refine (rFree_any r y l _ R3 hlive).mono ?_
                rintro e W4 ⟨rfl, R4, G4⟩
                have hB1 : Both w W4 b c r _ := hB2.turn P3 G3 (fun _ => R4) G4 (freed_inv hB2.inv hlive)
                have hCR1 := Lib.hid ((hCR2.out.kept hB2.pt hB2.rt G3 (.inl rfl)).kept P3 R3 G4 (.inr rfl))
                generalize l.set ((y - 1) % 64).toNat ((y - 1) / 64 + 1, false) = l' at hB1
                clear hB2 hCR2 P3 G3 R3 R4 G4 hlive

                obtain ⟨ys', hys'⟩ := all_exists l' hB1.inv
                go_wp2_with fail
                refine (lawAll_at b c l' hB1.inv ys' hys' _ hB1.pt).mono ?_
                rintro e V1 ⟨A1, c1, rfl, hr1, hb1⟩
                have hD1 := hB1.below hb1
                go_wp2_with fail
                refine (rAll_at r l' hB1.inv ys' hys' _ hD1.rt).mono ?_
                rintro e V2 ⟨A2, c2, rfl, hr2, hb2⟩
                have hD2 := hD1.below hb2
                have hroom := hys'.room
                go_wp2_with fail
                refine (same_any A1 A2 c1 c2 ys' ys' _ (row_reads (row_below hr1 hb2)) (row_reads hr2) (by omega) (by omega)).mono ?_
                rintro e V3 ⟨rfl, n3, rfl⟩
                rw [beq_self_eq_true]
                have hD3 := hD2.drewN n3
                have hCR3 := Lib.hid (((hCR1.out.below hb1).below hb2).drewN n3)
                clear hB1 hD1 hD2 hCR1 hr1 hb1 hr2 hb2 hys' hroom
                go_wp2_with fail
                refine (live_any b c y l' _ hD3.pt).mono ?_
                rintro e V4 ⟨rfl, rfl⟩
                go_wp2_with fail
                refine (rLive_any r y l' _ hD3.rt).mono ?_
                rintro e V5 ⟨rfl, rfl⟩
                go_wp2
                go_roundw
                case rel => exact ⟨k + 1, l', by omega, by go_num, hD3, hCR3⟩
                case measure => simp [intOf]; omega
          · rcases hneg2 with hneg2 | ⟨hneg1, hneg2⟩
            · by_cases hkc : (k : Int) = cut
              · subst hkc
                go_wp2_with fail
                refine (copy_any b c l _ hBo.pt).mono ?_
                rintro e W1 ⟨b', c', rfl, Pc, hb', hc', Bc⟩
                obtain ⟨ys0, hys0⟩ := all_exists l hBo.inv
                go_wp2_with fail
                refine (rAll_at r l hBo.inv ys0 hys0 _ (hBo.rt.below Bc)).mono ?_
                rintro e W2 ⟨A1, c1, rfl, hr1, hb1⟩
                have hB0 : Both w W2 b c r l := (hBo.below Bc).below hb1
                have hcc := hBo.pt.ltc
                have hCR0 : Hid (CutRel W2 c (k : Int) (k + 1) (.pointer (some ⟨b', 0, none⟩)) (.slice A1 ys0.length c1)) := .inr ⟨by omega, b', c', l, ys0, A1, c1, _, rfl, rfl, Pc.below hb1, hBo.inv, hys0, hr1, by omega⟩
                clear hBo hCR Pc Bc hr1 hb1 hys0 hb' hc' hcc

                have HYS := Lib.hid hys
                clear hys
                go_wp2_with fail
                refine (rAll_at r l hB0.inv ys HYS.out _ hB0.rt).mono ?_
                rintro e X1 ⟨A0, c0, rfl, hr0, hb0⟩
                have hB2 := hB0.below hb0
                have hCR2 := Lib.hid (hCR0.out.below hb0)
                clear hB0 hCR0 hb0

                have hdead : liveP l y = false := by simpa using hlive
                clear hlive
                go_wp2_with fail
                refine (free_no b c y l _ hB2.pt hdead).mono ?_
                rintro e W3 ⟨rfl, rfl⟩
                go_wp2_with fail
                refine (rFree_no r y l _ hB2.rt hdead).mono ?_
                rintro e W4 ⟨rfl, rfl⟩
                have hB1 := hB2
                have hCR1 := hCR2
                clear hB2 hCR2 hdead

                obtain ⟨ys', hys'⟩ := all_exists l hB1.inv
                go_wp2_with fail
                refine (lawAll_at b c l hB1.inv ys' hys' _ hB1.pt).mono ?_
                rintro e V1 ⟨A1, c1, rfl, hr1, hb1⟩
                have hD1 := hB1.below hb1
                go_wp2_with fail
                refine (rAll_at r l hB1.inv ys' hys' _ hD1.rt).mono ?_
                rintro e V2 ⟨A2, c2, rfl, hr2, hb2⟩
                have hD2 := hD1.below hb2
                have hroom := hys'.room
                go_wp2_with fail
                refine (same_any A1 A2 c1 c2 ys' ys' _ (row_reads (row_below hr1 hb2)) (row_reads hr2) (by omega) (by omega)).mono ?_
                rintro e V3 ⟨rfl, n3, rfl⟩
                rw [beq_self_eq_true]
                have hD3 := hD2.drewN n3
                have hCR3 := Lib.hid (((hCR1.out.below hb1).below hb2).drewN n3)
                clear hB1 hD1 hD2 hCR1 hr1 hb1 hr2 hb2 hys' hroom
                go_wp2_with fail
                refine (live_any b c y l _ hD3.pt).mono ?_
                rintro e V4 ⟨rfl, rfl⟩
                go_wp2_with fail
                refine (rLive_any r y l _ hD3.rt).mono ?_
                rintro e V5 ⟨rfl, rfl⟩
                go_wp2
                go_roundw
                case rel => exact ⟨k + 1, l, by omega, by go_num, hD3, hCR3⟩
                case measure => simp [intOf]; omega
              · have hbe : ((k : Int) == cut) = false := beq_eq_false_iff_ne.2 hkc
                have hB0 := hBo
                have hCR0 : Hid (CutRel wr c cut (k + 1) u9 u10) := hCR.next hkc
                clear hBo hCR

                have HYS := Lib.hid hys
                clear hys
                go_wp2_with fail
                refine (rAll_at r l hB0.inv ys HYS.out _ hB0.rt).mono ?_
                rintro e X1 ⟨A0, c0, rfl, hr0, hb0⟩
                have hB2 := hB0.below hb0
                have hCR2 := Lib.hid (hCR0.out.below hb0)
                clear hB0 hCR0 hb0

                have hdead : liveP l y = false := by simpa using hlive
                clear hlive
                go_wp2_with fail
                refine (free_no b c y l _ hB2.pt hdead).mono ?_
                rintro e W3 ⟨rfl, rfl⟩
                go_wp2_with fail
                refine (rFree_no r y l _ hB2.rt hdead).mono ?_
                rintro e W4 ⟨rfl, rfl⟩
                have hB1 := hB2
                have hCR1 := hCR2
                clear hB2 hCR2 hdead

                obtain ⟨ys', hys'⟩ := all_exists l hB1.inv
                go_wp2_with fail
                refine (lawAll_at b c l hB1.inv ys' hys' _ hB1.pt).mono ?_
                rintro e V1 ⟨A1, c1, rfl, hr1, hb1⟩
                have hD1 := hB1.below hb1
                go_wp2_with fail
                refine (rAll_at r l hB1.inv ys' hys' _ hD1.rt).mono ?_
                rintro e V2 ⟨A2, c2, rfl, hr2, hb2⟩
                have hD2 := hD1.below hb2
                have hroom := hys'.room
                go_wp2_with fail
                refine (same_any A1 A2 c1 c2 ys' ys' _ (row_reads (row_below hr1 hb2)) (row_reads hr2) (by omega) (by omega)).mono ?_
                rintro e V3 ⟨rfl, n3, rfl⟩
                rw [beq_self_eq_true]
                have hD3 := hD2.drewN n3
                have hCR3 := Lib.hid (((hCR1.out.below hb1).below hb2).drewN n3)
                clear hB1 hD1 hD2 hCR1 hr1 hb1 hr2 hb2 hys' hroom
                go_wp2_with fail
                refine (live_any b c y l _ hD3.pt).mono ?_
                rintro e V4 ⟨rfl, rfl⟩
                go_wp2_with fail
                refine (rLive_any r y l _ hD3.rt).mono ?_
                rintro e V5 ⟨rfl, rfl⟩
                go_wp2
                go_roundw
                case rel => exact ⟨k + 1, l, by omega, by go_num, hD3, hCR3⟩
                case measure => simp [intOf]; omega
            · by_cases hkc : (k : Int) = cut
              · subst hkc
                go_wp2_with fail
                refine (copy_any b c l _ hBo.pt).mono ?_
                rintro e W1 ⟨b', c', rfl, Pc, hb', hc', Bc⟩
                obtain ⟨ys0, hys0⟩ := all_exists l hBo.inv
                go_wp2_with fail
                refine (rAll_at r l hBo.inv ys0 hys0 _ (hBo.rt.below Bc)).mono ?_
                rintro e W2 ⟨A1, c1, rfl, hr1, hb1⟩
                have hB0 : Both w W2 b c r l := (hBo.below Bc).below hb1
                have hcc := hBo.pt.ltc
                have hCR0 : Hid (CutRel W2 c (k : Int) (k + 1) (.pointer (some ⟨b', 0, none⟩)) (.slice A1 ys0.length c1)) := .inr ⟨by omega, b', c', l, ys0, A1, c1, _, rfl, rfl, Pc.below hb1, hBo.inv, hys0, hr1, by omega⟩
                clear hBo hCR Pc Bc hr1 hb1 hys0 hb' hc' hcc

                have HYS := Lib.hid hys
                clear hys
                go_wp2_with fail
                refine (rAll_at r l hB0.inv ys HYS.out _ hB0.rt).mono ?_
                rintro e X1 ⟨A0, c0, rfl, hr0, hb0⟩
                have hB2 := hB0.below hb0
                have hCR2 := Lib.hid (hCR0.out.below hb0)
                clear hB0 hCR0 hb0

                have hdead : liveP l y = false := by simpa using hlive
                clear hlive
                go_wp2_with fail
                refine (free_no b c y l _ hB2.pt hdead).mono ?_
                rintro e W3 ⟨rfl, rfl⟩
                go_wp2_with fail
                refine (rFree_no r y l _ hB2.rt hdead).mono ?_
                rintro e W4 ⟨rfl, rfl⟩
                have hB1 := hB2
                have hCR1 := hCR2
                clear hB2 hCR2 hdead

                obtain ⟨ys', hys'⟩ := all_exists l hB1.inv
                go_wp2_with fail
                refine (lawAll_at b c l hB1.inv ys' hys' _ hB1.pt).mono ?_
                rintro e V1 ⟨A1, c1, rfl, hr1, hb1⟩
                have hD1 := hB1.below hb1
                go_wp2_with fail
                refine (rAll_at r l hB1.inv ys' hys' _ hD1.rt).mono ?_
                rintro e V2 ⟨A2, c2, rfl, hr2, hb2⟩
                have hD2 := hD1.below hb2
                have hroom := hys'.room
                go_wp2_with fail
                refine (same_any A1 A2 c1 c2 ys' ys' _ (row_reads (row_below hr1 hb2)) (row_reads hr2) (by omega) (by omega)).mono ?_
                rintro e V3 ⟨rfl, n3, rfl⟩
                rw [beq_self_eq_true]
                have hD3 := hD2.drewN n3
                have hCR3 := Lib.hid (((hCR1.out.below hb1).below hb2).drewN n3)
                clear hB1 hD1 hD2 hCR1 hr1 hb1 hr2 hb2 hys' hroom
                go_wp2_with fail
                refine (live_any b c y l _ hD3.pt).mono ?_
                rintro e V4 ⟨rfl, rfl⟩
                go_wp2_with fail
                refine (rLive_any r y l _ hD3.rt).mono ?_
                rintro e V5 ⟨rfl, rfl⟩
                go_wp2
                go_roundw
                case rel => exact ⟨k + 1, l, by omega, by go_num, hD3, hCR3⟩
                case measure => simp [intOf]; omega
              · have hbe : ((k : Int) == cut) = false := beq_eq_false_iff_ne.2 hkc
                have hB0 := hBo
                have hCR0 : Hid (CutRel wr c cut (k + 1) u9 u10) := hCR.next hkc
                clear hBo hCR

                have HYS := Lib.hid hys
                clear hys
                go_wp2_with fail
                refine (rAll_at r l hB0.inv ys HYS.out _ hB0.rt).mono ?_
                rintro e X1 ⟨A0, c0, rfl, hr0, hb0⟩
                have hB2 := hB0.below hb0
                have hCR2 := Lib.hid (hCR0.out.below hb0)
                clear hB0 hCR0 hb0

                have hdead : liveP l y = false := by simpa using hlive
                clear hlive
                go_wp2_with fail
                refine (free_no b c y l _ hB2.pt hdead).mono ?_
                rintro e W3 ⟨rfl, rfl⟩
                go_wp2_with fail
                refine (rFree_no r y l _ hB2.rt hdead).mono ?_
                rintro e W4 ⟨rfl, rfl⟩
                have hB1 := hB2
                have hCR1 := hCR2
                clear hB2 hCR2 hdead

                obtain ⟨ys', hys'⟩ := all_exists l hB1.inv
                go_wp2_with fail
                refine (lawAll_at b c l hB1.inv ys' hys' _ hB1.pt).mono ?_
                rintro e V1 ⟨A1, c1, rfl, hr1, hb1⟩
                have hD1 := hB1.below hb1
                go_wp2_with fail
                refine (rAll_at r l hB1.inv ys' hys' _ hD1.rt).mono ?_
                rintro e V2 ⟨A2, c2, rfl, hr2, hb2⟩
                have hD2 := hD1.below hb2
                have hroom := hys'.room
                go_wp2_with fail
                refine (same_any A1 A2 c1 c2 ys' ys' _ (row_reads (row_below hr1 hb2)) (row_reads hr2) (by omega) (by omega)).mono ?_
                rintro e V3 ⟨rfl, n3, rfl⟩
                rw [beq_self_eq_true]
                have hD3 := hD2.drewN n3
                have hCR3 := Lib.hid (((hCR1.out.below hb1).below hb2).drewN n3)
                clear hB1 hD1 hD2 hCR1 hr1 hb1 hr2 hb2 hys' hroom
                go_wp2_with fail
                refine (live_any b c y l _ hD3.pt).mono ?_
                rintro e V4 ⟨rfl, rfl⟩
                go_wp2_with fail
                refine (rLive_any r y l _ hD3.rt).mono ?_
                rintro e V5 ⟨rfl, rfl⟩
                go_wp2
                go_roundw
                case rel => exact ⟨k + 1, l, by omega, by go_num, hD3, hCR3⟩
                case measure => simp [intOf]; omega
    · obtain rfl : k = len := by omega
      obtain ⟨ys, hys⟩ := all_exists l hBo.inv
      have HYS := Lib.hid hys
      have hroom := hys.room
      clear hys
      have hcc := Lib.hid hCut.out
      rcases hCR.out with ⟨hno, rfl⟩ | ⟨hyes, hSv⟩
      · by_cases hc0 : 0 ≤ cut
        · have hc1 : (k : Int) ≤ cut := by omega
          clear hCR hno
          go_wp2_with fail
          refine (rAll_at r l hBo.inv ys HYS.out _ hBo.rt).mono ?_
          rintro e X1 ⟨A0, c0, rfl, hr0, hb0⟩
          have hB2 := hBo.below hb0
          have hcap := row_cap hr0
          clear hBo hb0
          by_cases h3 : 3 < ys.length
          · have h3c : 3 ≤ c0 := by omega
            have htl : (ys.take 3).length = 3 := by simp; omega
            have HTL := Lib.hid htl
            clear htl
            obtain ⟨g0, o0, hA0, hcq⟩ := row_reads hr0 0 (by omega)
            subst hA0
            clear hcq
            go_wp2_with fail
            refine (lawAll_three b c l hB2.inv ys HYS.out _ hB2.pt).mono ?_
            rintro e X2 ⟨A1, c1, rfl, hr1, hb1⟩
            have hB3 := hB2.below hb1
            go_wp2_with fail
            refine (same_at A1 _ c1 c0 _ 3 (ys.take 3) (ys.take 3) _ List.length_take HTL.out (row_reads hr1) (reads_take (row_reads (row_below hr0 hb1)) 3) (by have := HTL.out; omega) (by have := HTL.out; omega)).mono ?_
            rintro e X3 ⟨rfl, n3, rfl⟩
            rw [beq_self_eq_true]
            have hB4 := hB3.drewN n3
            clear hB2 hB3 hr0 hr1 hb1
            go_wp2_with fail
            refine (known_any _).mono ?_
            rintro e X4 ⟨rfl, hk4⟩
            go_wp2
            go_ret
            exact ⟨rfl, hB4.bel.trans (hk4.mono hB4.bel.size)⟩
          · have htl : ys.take 3 = ys := List.take_of_length_le (by omega)
            have HTL := Lib.hid htl
            clear htl
            go_wp2_with fail
            refine (lawAll_three b c l hB2.inv ys HYS.out _ hB2.pt).mono ?_
            rw [HTL.out]
            rintro e X2 ⟨A1, c1, rfl, hr1, hb1⟩
            have hB3 := hB2.below hb1
            go_wp2_with fail
            refine (same_at A1 A0 c1 c0 _ _ ys ys _ rfl rfl (row_reads hr1) (row_reads (row_below hr0 hb1)) (by omega) (by omega)).mono ?_
            rintro e X3 ⟨rfl, n3, rfl⟩
            rw [beq_self_eq_true]
            have hB4 := hB3.drewN n3
            clear hB2 hB3 hr0 hr1 hb1
            go_wp2_with fail
            refine (known_any _).mono ?_
            rintro e X4 ⟨rfl, hk4⟩
            go_wp2
            go_ret
            exact ⟨rfl, hB4.bel.trans (hk4.mono hB4.bel.size)⟩
        · clear hCR hno
          go_wp2_with fail
          refine (rAll_at r l hBo.inv ys HYS.out _ hBo.rt).mono ?_
          rintro e X1 ⟨A0, c0, rfl, hr0, hb0⟩
          have hB2 := hBo.below hb0
          have hcap := row_cap hr0
          clear hBo hb0
          by_cases h3 : 3 < ys.length
          · have h3c : 3 ≤ c0 := by omega
            have htl : (ys.take 3).length = 3 := by simp; omega
            have HTL := Lib.hid htl
            clear htl
            obtain ⟨g0, o0, hA0, hcq⟩ := row_reads hr0 0 (by omega)
            subst hA0
            clear hcq
            go_wp2_with fail
            refine (lawAll_three b c l hB2.inv ys HYS.out _ hB2.pt).mono ?_
            rintro e X2 ⟨A1, c1, rfl, hr1, hb1⟩
            have hB3 := hB2.below hb1
            go_wp2_with fail
            refine (same_at A1 _ c1 c0 _ 3 (ys.take 3) (ys.take 3) _ List.length_take HTL.out (row_reads hr1) (reads_take (row_reads (row_below hr0 hb1)) 3) (by have := HTL.out; omega) (by have := HTL.out; omega)).mono ?_
            rintro e X3 ⟨rfl, n3, rfl⟩
            rw [beq_self_eq_true]
            have hB4 := hB3.drewN n3
            clear hB2 hB3 hr0 hr1 hb1
            go_wp2_with fail
            refine (known_any _).mono ?_
            rintro e X4 ⟨rfl, hk4⟩
            go_wp2
            go_ret
            exact ⟨rfl, hB4.bel.trans (hk4.mono hB4.bel.size)⟩
          · have htl : ys.take 3 = ys := List.take_of_length_le (by omega)
            have HTL := Lib.hid htl
            clear htl
            go_wp2_with fail
            refine (lawAll_three b c l hB2.inv ys HYS.out _ hB2.pt).mono ?_
            rw [HTL.out]
            rintro e X2 ⟨A1, c1, rfl, hr1, hb1⟩
            have hB3 := hB2.below hb1
            go_wp2_with fail
            refine (same_at A1 A0 c1 c0 _ _ ys ys _ rfl rfl (row_reads hr1) (row_reads (row_below hr0 hb1)) (by omega) (by omega)).mono ?_
            rintro e X3 ⟨rfl, n3, rfl⟩
            rw [beq_self_eq_true]
            have hB4 := hB3.drewN n3
            clear hB2 hB3 hr0 hr1 hb1
            go_wp2_with fail
            refine (known_any _).mono ?_
            rintro e X4 ⟨rfl, hk4⟩
            go_wp2
            go_ret
            exact ⟨rfl, hB4.bel.trans (hk4.mono hB4.bel.size)⟩
      · obtain ⟨b', c', l0, ys0, A9, c9, base, rfl, rfl, h93, h94, h95, h96, h97⟩ := hSv
        obtain ⟨hy1, hy2⟩ := hyes
        have hr9 := h95.room
        clear hCR
        go_wp2_with fail
        refine (lawAll_at b' c' l0 h94 ys0 h95 _ h93).mono ?_
        rintro e Y1 ⟨A8, c8, rfl, hr8, hb8⟩
        have hBo := hBo.below hb8
        go_wp2_with fail
        refine (same_any A8 A9 c8 c9 ys0 ys0 _ (row_reads hr8) (row_reads (row_below h96 hb8)) (by omega) (by omega)).mono ?_
        rintro e Y2 ⟨rfl, n2, rfl⟩
        rw [beq_self_eq_true]
        have hBo := hBo.drewN n2
        clear h93 h95 h96 hr8 hb8

        go_wp2_with fail
        refine (rAll_at r l hBo.inv ys HYS.out _ hBo.rt).mono ?_
        rintro e X1 ⟨A0, c0, rfl, hr0, hb0⟩
        have hB2 := hBo.below hb0
        have hcap := row_cap hr0
        clear hBo hb0
        by_cases h3 : 3 < ys.length
        · have h3c : 3 ≤ c0 := by omega
          have htl : (ys.take 3).length = 3 := by simp; omega
          have HTL := Lib.hid htl
          clear htl
          obtain ⟨g0, o0, hA0, hcq⟩ := row_reads hr0 0 (by omega)
          subst hA0
          clear hcq
          go_wp2_with fail
          refine (lawAll_three b c l hB2.inv ys HYS.out _ hB2.pt).mono ?_
          rintro e X2 ⟨A1, c1, rfl, hr1, hb1⟩
          have hB3 := hB2.below hb1
          go_wp2_with fail
          refine (same_at A1 _ c1 c0 _ 3 (ys.take 3) (ys.take 3) _ List.length_take HTL.out (row_reads hr1) (reads_take (row_reads (row_below hr0 hb1)) 3) (by have := HTL.out; omega) (by have := HTL.out; omega)).mono ?_
          rintro e X3 ⟨rfl, n3, rfl⟩
          rw [beq_self_eq_true]
          have hB4 := hB3.drewN n3
          clear hB2 hB3 hr0 hr1 hb1
          go_wp2_with fail
          refine (known_any _).mono ?_
          rintro e X4 ⟨rfl, hk4⟩
          go_wp2
          go_ret
          exact ⟨rfl, hB4.bel.trans (hk4.mono hB4.bel.size)⟩
        · have htl : ys.take 3 = ys := List.take_of_length_le (by omega)
          have HTL := Lib.hid htl
          clear htl
          go_wp2_with fail
          refine (lawAll_three b c l hB2.inv ys HYS.out _ hB2.pt).mono ?_
          rw [HTL.out]
          rintro e X2 ⟨A1, c1, rfl, hr1, hb1⟩
          have hB3 := hB2.below hb1
          go_wp2_with fail
          refine (same_at A1 A0 c1 c0 _ _ ys ys _ rfl rfl (row_reads hr1) (row_reads (row_below hr0 hb1)) (by omega) (by omega)).mono ?_
          rintro e X3 ⟨rfl, n3, rfl⟩
          rw [beq_self_eq_true]
          have hB4 := hB3.drewN n3
          clear hB2 hB3 hr0 hr1 hb1
          go_wp2_with fail
          refine (known_any _).mono ?_
          rintro e X4 ⟨rfl, hk4⟩
          go_wp2
          go_ret
          exact ⟨rfl, hB4.bel.trans (hk4.mono hB4.bel.size)⟩

theorem idsPlays_no (g : Int) (a : Option Addr) (len cap : Nat) (cut : Int) (w : World) (h : g < 0 ∨ 17179869183 < g) :
    Calls Try.prog 9 #[.int .i64 g, .slice a len cap, .int .i64 cut] w fun e w' => e = .returned (.bool true) ∧ Below w.heap.size w w' := by
  go_enter Try.func9, Try.ntmps9
  go_wp2_with fail
  refine (newPids_no g _ h).mono ?_
  rintro e w' ⟨rfl, rfl⟩
  go_wp2_with fail
  refine (rNew_no g _ h).mono ?_
  rintro e w' ⟨rfl, rfl⟩
  go_wp2_with fail
  refine (known_any _).mono ?_
  rintro e w' ⟨rfl, hB⟩
  go_wp2
  go_ret
  exact ⟨rfl, hB⟩
theorem idsPlays_any (g : Int) (a : Option Addr) (len cap : Nat) (cut : Int) (w : World) (hs : Script64 w a len) (hm : len ≤ 1000000000000000) (hcut : -9223372036854775808 ≤ cut ∧ cut ≤ 9223372036854775807) :
    Calls Try.prog 9 #[.int .i64 g, .slice a len cap, .int .i64 cut] w fun e w' => e = .returned (.bool true) ∧ Below w.heap.size w w' := by
  by_cases h : g < 0 ∨ 17179869183 < g
  · exact idsPlays_no g a len cap cut w h
  · exact idsPlays_yes g a len cap cut w hs (by omega) (by omega) hm hcut
theorem script64_of {w : World} {a : Option Addr} {len cap : Nat} {zs : List Int} (h : (a = none ∧ len = 0 ∧ cap = 0 ∧ zs = []) ∨
    ∃ x, a = some x ∧ len ≤ cap ∧ cap ≤ maxLen ∧ zs.length = cap ∧ (∀ i, i < zs.length → w.cell? (x.add i) = some (.int .i64 (zs.getD i 0))) ∧ ∀ n ∈ zs, (Lit.int .i64 n).wf = true) : Script64 w a len := by
  intro i hi
  rcases h with ⟨_, h, _⟩ | ⟨x, hx, hl, _, hz, hc, hw⟩
  · omega
  · exact ⟨x, _, hx, hc i (by omega), hw (zs.getD i 0) (by rw [List.getD, List.getElem?_eq_getElem (show i < zs.length by omega)]; exact List.getElem_mem _)⟩
theorem len_of {len : Nat} (h : len * 8 ≤ 140737488351232) : len ≤ 1000000000000000 := by omega
theorem wf64 {a : Int} (h : (Lit.int .i64 a).wf = true) : -9223372036854775808 ≤ a ∧ a ≤ 9223372036854775807 := by
  have h2 := h; simp [Lit.wf, IntKind.min, IntKind.max] at h2; simp [IntKind.signed, IntKind.bits] at h2; omega
end Go.Proofs.Ytofpbiadnbbaoaa.Ids
