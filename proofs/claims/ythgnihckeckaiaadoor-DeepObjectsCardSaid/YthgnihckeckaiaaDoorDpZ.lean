/- deep.walk: its see is Reach's closure. -/
import Derived.Test.YthgnihckeckaiaaDoorDpV
import Derived.Sort.CutIn
import Derived.Sort.QuietIn
import Derived.RegionIn
import Derived.Maps.OwnIn
import Derived.BigRegionIn
namespace Go.Proofs.YthgnihckeckaiaaDoor.Tm
open Go.RowKit Go.Shelf
set_option linter.unusedVariables false
set_option linter.unusedSimpArgs false
attribute [local go_sem] Oper.semAt_some

set_option maxRecDepth 100000 in
set_option maxHeartbeats 16000000 in
theorem walk_reach (n : Nat) (hn : 3 ≤ n) (pa pb : Value) (w : World) (O : Nat → Prop) (ba room : Nat) (L : List ObjA) (roots : List Int) (A : Option Addr) (cap : Nat) (hA : ArAt w O ba room L) (hr : WReads w A roots) (hx : ∀ x ∈ roots, FindOk L x) (hlen : roots.length ≤ 1000000000000000000)
    (J Jx : (Nat → Prop) → List Int → World → Prop) (cs0 : Nat → Prop) (hcs : ∀ k, cs0 k → k < w.heap.size ∧ ¬ O k) (hAc : ∀ b o, A = some ⟨b, o, none⟩ → b < w.heap.size ∧ ¬ cs0 b)
    (hJg : ∀ cs pre W1 W2, J cs pre W1 → Fr (Mine w.heap.size cs) W1 W2 → J cs pre W2)
    (hY : ∀ cs pre x W1, J cs pre W1 → (∀ k, cs k → k < W1.heap.size) → (pre ++ [x]) <+: roots.foldl (visW L) [] → Calls Tryd.prog 85 #[.int .u64 x, pa, pb] W1 fun e V => ∃ cs', ((e = .returned (.bool true) ∧ J cs' (pre ++ [x]) V) ∨ (e = .returned (.bool false) ∧ Jx cs' (pre ++ [x]) V)) ∧ KpG cs cs' W1 V)
    (h0 : J cs0 [] w) :
    Calls Tryd.prog 84 #[.pointer (some ⟨ba, 0, none⟩), .slice A roots.length cap, .func (.func 85) #[] #[pa, pb]] w fun e V => (∃ v, e = .returned v) ∧ ((∃ cs, J cs (roots.foldl (visW L) []) V) ∨ ∃ cs pre, pre <+: roots.foldl (visW L) [] ∧ Jx cs pre V) := by
  have hmm := @run_makeMap Tryd.prog
  have hwf := hA.wf
  have hlims := hA.lims
  have hll := hwf.len
  have HWF := Lib.hid hwf
  have HX := Lib.hid hx
  obtain ⟨T, hT⟩ : ∃ T, roots.foldl (visW L) [] = T := ⟨_, rfl⟩
  rw [hT] at hY ⊢
  have HJ := Lib.hid hJg
  have HY := Lib.hid hY
  have hBm := below_one w (.map #[] 0)
  have HI := Lib.hid (show WalkIn w.heap.size O cs0 ba room L A roots [] [] (.slice none 0 0) (w.alloc (.map #[] 0)) from
    ⟨⟨hA.below hBm, heap_alloc_new w _, row_nil _ _ _ _, Nat.le_refl _, by rw [World.size_alloc]; omega, fun k hk => ⟨(hA.lim k hk).2, fun h => (hcs k h).2 hk⟩, fun k hk => by rw [World.size_alloc]; have := (hcs k hk).1; omega, fun h => by have := (hcs _ h).1; omega, fun g hg => by simp [Value.ownBlock] at hg⟩,
      hr.below hBm, hAc⟩)
  have HJ0 := Lib.hid (hJg cs0 [] w _ h0 (Fr.of_below hBm))
  have HN := Lib.hid (show WalkNow L roots T [] [] from ⟨⟨fun s hs => (by cases hs), fun s hs => (by cases hs), List.Pairwise.nil, fun i hi => absurd hi (Nat.not_lt_zero i)⟩, ⟨List.nodup_nil, fun x hx => (by cases hx)⟩, hT⟩)
  clear hJg hY h0 hA hr hx hcs hAc hBm hwf hT
  go_enter Tryd.func84, Tryd.ntmps84
  go_wp2
  clear hmm
  go_loopw [7, 18] (fun v i wr => ∃ (j : Nat) (cs : Nat → Prop) (m : List Int), j ≤ roots.length ∧ i = .int .i64 (j : Int) ∧ Hid (WalkIn w.heap.size O cs ba room L A roots m [] v wr) ∧ Hid (J cs m wr) ∧ Hid (WalkNow L (roots.drop j) T m [])) (fun v i _ => roots.length - (intOf i).toNat)
  case atStart => exact ⟨0, cs0, [], Nat.zero_le _, rfl, HI, HJ0, by simpa using HN⟩
  case round =>
    clear HI HJ0 HN
    obtain ⟨j, cs, m, hj, rfl, hI, hJc, hN⟩ := hrel
    by_cases hlt : j < roots.length
    · obtain ⟨b0, o0, rfl, q0⟩ := hI.out.rd j hlt
      have hxo := HX.out roots[j] (List.getElem_mem hlt)
      have hN1 := hN.out
      rw [List.drop_eq_getElem_cons hlt] at hN1
      have HN1 := Lib.hid (hN1.start hxo)
      obtain ⟨x0, hx0⟩ : ∃ x, roots[j] = x := ⟨_, rfl⟩
      rw [hx0] at q0 hxo HN1
      obtain ⟨Av, cv, hv⟩ := row_slice hI.out.rep.row
      rw [List.length_nil] at hv
      subst hv
      have hsz := hI.out.rep.los
      have hj1 : (j : Int) < (roots.length : Int) := by omega
      have hj0 : (0 : Int) ≤ (j : Int) := Int.natCast_nonneg _
      have hbl : decide ((j : Int) < (roots.length : Int)) = true := decide_eq_true hj1
      obtain ⟨rest, hrest⟩ : ∃ r, roots.drop (j + 1) = r := ⟨_, rfl⟩
      rw [hrest] at HN1
      have HREST := Lib.hid hrest
      obtain ⟨i0, hi, hz0, hz1, hz2⟩ := info_parts step_info
      clear hN1 hx0 hN hrest
      go_wp2_with fail
      go_step3
      go_upto_region 5 with (fail)
      go_cut [7] (fun v wx => Hid (WalkIn w.heap.size O cs ba room L (some ⟨b0, o0, none⟩) roots m [(x0, 0)] v wx) ∧ Hid (J cs m wx))
      case first =>
        have HROW := Lib.hid hI.out.rep.row
        rcases Av with _ | av
        all_goals
          go_wp2_with (at_builtin; refine wpList_append_own_at _ rfl (.tmp 23) (.tmp 26) _ rfl w.heap.size 183 i0 (.agg #[.int .u64 0, .int .i64 0]) 2 16 Tryd.underlying181 hi hz0 hz1 hz2 rfl (by decide) _ 0 [] rfl (HROW.out.alloc _) ⟨wr.heap.size, 0, none⟩ 1 1 [.int .u64 x0, .int .i64 0] rfl rfl (World.news_of_block (cs := #[.int .u64 x0, .int .i64 0]) (t := 183) (fr := (0, 0)) (heap_alloc_new wr _)) one2s (by unfold maxLen; omega) (by omega) (by rw [World.size_alloc]; omega) ?_; intro v1 w1 hown1 hgrow1 hnil1 hat1)
          go_meet
          obtain ⟨hP1, hF1⟩ := hI.out.rep.push (below_one wr _) hgrow1 (x := x0) (k := 0) hown1 hat1
          exact ⟨Lib.hid (hI.out.step hP1 hF1), Lib.hid (HJ.out cs m _ _ hJc.out hF1)⟩
      case rest =>
      obtain ⟨HI1, HJ1⟩ := hcut
      obtain ⟨A1, c1, hv1⟩ := row_slice HI1.out.rep.row
      subst hv1
      clear hI hJc q0 hi hz0 hz1 hz2 i0
      go_wp2_with fail
      go_step3
      go_wp2_with fail
      go_loopw [7] (fun v wr => ∃ (cs : Nat → Prop) (m : List Int) (st : List (Int × Nat)), Hid (WalkIn w.heap.size O cs ba room L (some ⟨b0, o0, none⟩) roots m st v wr) ∧ Hid (J cs m wr) ∧ Hid (WalkNow L rest T m st)) (fun v wr => leftW L.length (mapN wr w.heap.size) (sliceLen v))
      case atStart => exact ⟨cs, m, [(x0, 0)], HI1, HJ1, HN1⟩
      case round =>
        clear HI1 HJ1 HN1
        obtain ⟨cs, m, st, hI, hJc, hN⟩ := hrel
        rcases List.eq_nil_or_concat st with rfl | ⟨s0, ⟨x, k⟩, rfl⟩
        · obtain ⟨Av, cv, hv⟩ := row_slice hI.out.rep.row
          rw [List.length_nil] at hv
          subst hv
          have hHI := hI
          have hHJ := hJc
          have hHN := hN
          clear hI hJc hN
          go_wp2
          try simp only [Exit.noGoto_normal]
          go_wp2
          go_roundw
          case rel => exact ⟨j + 1, cs, m, by omega, by go_num, hHI, hHJ, by rw [HREST.out]; exact hHN⟩
          case measure => simp [intOf]; omega
        · rw [List.concat_eq_append] at hI hN
          obtain ⟨g, cp, rfl, hcp, _⟩ := hI.out.rep.last
          obtain ⟨hxo, hkle, hopen, _⟩ := hN.out.ok.top
          have hstl := hN.out.ok.len
          rw [List.length_append, List.length_singleton] at hstl
          obtain ⟨M, hM⟩ : ∃ M, s0.length + 1 = M := ⟨_, rfl⟩
          have hs0 : s0.length = M - 1 := by omega
          rw [hM] at hI ⊢ hcp hstl
          obtain ⟨q0, q1, qf⟩ := hI.out.rep.cells hM
          have hM1 : 1 ≤ M := by omega
          have g1 : decide ((0 : Int) < (M : Int)) = true := decide_eq_true (by omega)
          have g2 : 0 < M := by omega
          have w3 : IntKind.i64.wrap ((M : Int) - 1) = (M : Int) - 1 := by rw [IntKind.wrap_i64]; omega
          have b2 : (0 : Int) ≤ (M : Int) - 1 := by omega
          have b2' : (1 : Int) ≤ (M : Int) := by omega
          have d2 : (M : Int) - 1 < (M : Int) := by omega
          have t2 : ((M : Int) - 1).toNat = M - 1 := by omega
          have d3 : M - 1 < M := by omega
          have hpt := pointer_any x wr hxo.2.1 hxo.2.2
          have hmet := run_met wr w.heap.size m x hI.out.rep.map
          have HI0 := hI
          have HJ0 := hJc
          have HN0 := hN
          have HM := Lib.hid hM
          have HOP := Lib.hid hopen
          obtain ⟨bb, hbb⟩ : ∃ b, decide (k = 0 ∧ (ptrW x = false ∨ x ∈ m)) = b := ⟨_, rfl⟩
          have HBB := Lib.hid hbb
          clear hI hJc hN hM hs0 hopen hbb
          go_upto_region 8 with (fail)
          go_cut [56] (fun s56 wx => s56 = .bool bb ∧ wr = wx)
          case first =>
            by_cases hk : k = 0
            · have ek : ((k : Int) == 0) = true := by rw [hk]; rfl
              cases hp : ptrW x with
              | false =>
                have e : bb = true := by rw [← HBB.out]; exact decide_eq_true ⟨hk, .inl hp⟩
                subst e
                rw [hp] at hpt
                clear hmet hk hp
                go_wp2_with (go_at_call 126; refine hpt.mono ?_; rintro e w2 ⟨rfl, rfl⟩)
                go_meet
                exact ⟨rfl, rfl⟩
              | true =>
                rw [hp] at hpt
                by_cases hm : x ∈ m
                · have e : bb = true := by rw [← HBB.out]; exact decide_eq_true ⟨hk, .inr hm⟩
                  subst e
                  have hmt := hmet.1 hm
                  clear hmet hk hp hm
                  go_wp2_with (go_at_call 126; refine hpt.mono ?_; rintro e w2 ⟨rfl, rfl⟩)
                  go_meet
                  exact ⟨rfl, rfl⟩
                · have e : bb = false := by rw [← HBB.out]; exact decide_eq_false (fun h => h.2.elim (fun h' => by rw [hp] at h'; cases h') hm)
                  subst e
                  have hmt := hmet.2 hm
                  clear hmet hk hp hm
                  go_wp2_with (go_at_call 126; refine hpt.mono ?_; rintro e w2 ⟨rfl, rfl⟩)
                  go_meet
                  exact ⟨rfl, rfl⟩
            · have ek : ((k : Int) == 0) = false := beq_eq_false_iff_ne.2 (by omega)
              have e : bb = false := by rw [← HBB.out]; exact decide_eq_false (fun h => hk h.1)
              subst e
              clear hmet hk hpt
              go_wp2
              go_meet
              exact ⟨rfl, rfl⟩
          case rest =>
            obtain ⟨rfl, rfl⟩ := hcut
            clear hpt hmet
            by_cases hb : k = 0 ∧ (ptrW x = false ∨ x ∈ m)
            · have e : bb = true := by rw [← HBB.out]; exact decide_eq_true hb
              subst e
              have hs1 : s0 = [] := by
                by_cases h : s0 = []
                · exact h
                · have := HOP.out (.inl h)
                  rcases hb.2 with h' | h'
                  · rw [h'] at this; exact absurd this.1 (by decide)
                  · exact absurd h' this.2
              have hM0 : M = 1 := by rw [← HM.out, hs1]; rfl
              obtain ⟨rfl, hb2⟩ := hb
              have HPOP := Lib.hid (show WalkIn w.heap.size O cs ba room L (some ⟨b0, o0, none⟩) roots m s0 (.slice (some ⟨g, 0, none⟩) (M - 1) cp) wr by
                have h1 := HI0.out.rep
                rw [← HM.out] at h1
                have h2 := h1.pop
                rw [show s0.length = M - 1 by have := HM.out; omega] at h2
                exact HI0.out.step h2 (Fr.refl _ _))
              have HNP := Lib.hid (HN0.out.pop HWF.out hb2)
              have HM0 := Lib.hid hM0
              clear hs1 hb2 hM0 HOP HBB
              go_wp2
              go_roundw
              case rel => exact ⟨cs, m, s0, HPOP, HJ0, HNP⟩
              case measure =>
                have := HM0.out
                subst this
                simp only [sliceLen]
                exact left_pop
            · have e : bb = false := by rw [← HBB.out]; exact decide_eq_false hb
              subst e
              have hop : ptrW x = true ∧ x ∉ m := by
                by_cases h : k = 0
                · refine ⟨?_, fun hm => hb ⟨h, .inr hm⟩⟩
                  cases hp : ptrW x
                  · exact absurd ⟨h, .inl hp⟩ hb
                  · rfl
                · exact HOP.out (.inr h)
              have HOPN := Lib.hid hop
              obtain ⟨P, hP⟩ : ∃ P, partsW L x = P := ⟨_, rfl⟩
              have hps := parts_any wr O ba room L x hxo.2.1 hxo.2.2 HI0.out.rep.ar
              rw [hP] at hps hkle
              have HPP := Lib.hid hP
              clear hb hop HOP HBB hP
              go_wp2_with (go_at_call 87; refine hps.mono ?_; rintro e w2 ⟨rfl, hb2⟩; have HI2 := Lib.hid (HI0.out.below hb2); have HJ2 := Lib.hid (HJ.out cs m _ _ HJ0.out (Fr.of_below hb2)); have q0' := cell_below hb2 q0)
              have HCNT := Lib.hid HI0.out.cnt
              clear hb2 hps q0 q1 qf HI0 HJ0
              go_loopw [7] (fun v wx => v = .slice (some ⟨g, 0, none⟩) M cp ∧ ∃ (k' : Nat), k' ≤ P.length ∧ Hid (WalkIn w.heap.size O cs ba room L (some ⟨b0, o0, none⟩) roots m (s0 ++ [(x, k')]) (.slice (some ⟨g, 0, none⟩) M cp) wx) ∧ Hid (J cs m wx) ∧ Hid (WalkNow L rest T m (s0 ++ [(x, k')]))) (fun v wx => P.length - cellN wx g ((M - 1) * 2 + 1))
              case atStart => exact ⟨rfl, k, hkle, HI2, HJ2, HN0⟩
              case round =>
                obtain ⟨rfl, k', hk', hI3, hJ3, hN3⟩ := hrel
                obtain ⟨q0, q1, qf⟩ := hI3.out.rep.cells HM.out
                have HC3 := Lib.hid (cellN_of q1)
                clear HI2 HJ2 HN0 q0'
                by_cases hlt3 : k' < P.length
                · have hpl := parts_len HWF.out x
                  rw [HPP.out] at hpl
                  have hbl3 : decide ((k' : Int) < (P.length : Int)) = true := decide_eq_true (by omega)
                  have hwr : IntKind.i64.wrap ((k' : Int) + 1) = (k' : Int) + 1 := by rw [IntKind.wrap_i64]; omega
                  obtain ⟨a1, a2⟩ := part_at HWF.out HPP.out hlt3
                  have hpr := parts_rank HWF.out (x := x) (p := P[k']) (by rw [HPP.out]; exact List.getElem_mem hlt3)
                  obtain ⟨p, hp⟩ : ∃ p, P[k'] = p := ⟨_, rfl⟩
                  rw [hp] at a2 hpr
                  have hap := fun W (hB : Below wr.heap.size wr W) => apart_any W O ba room L x (k' : Int) hxo.2.1 hxo.2.2 (hI3.out.rep.ar.below hB)
                  rw [a1, a2] at hap
                  have HP := Lib.hid hp
                  clear a1 a2 hp
                  go_upto_region 12 with (fail)
                  go_cut [12, 13] (fun s12 s13 wy => s12 = .int .u64 p ∧ s13 = .int .i64 0 ∧ Below wr.heap.size wr wy)
                  case first =>
                    go_region_with (go_at_call 88; refine (hap _ (by first | exact (Below.refl _ _).drew | exact below_drewA (Below.refl _ _) _)).mono ?_; rintro e w5 ⟨rfl, hB⟩)
                    all_goals
                      go_simp
                      refine ‹∀ (a' : Act) (w' : World), Met _ a' w' → _› _ _ ?_
                      go_meet
                      exact ⟨rfl, rfl, below_then (by first | exact (Below.refl _ _).drew | exact below_drewA (Below.refl _ _) _) hB⟩
                  case rest =>
                    obtain ⟨rfl, rfl, hB4⟩ := hcut
                    have HI4 := Lib.hid (hI3.out.below hB4)
                    have HJ4 := Lib.hid (HJ.out cs m _ _ hJ3.out (Fr.of_below hB4))
                    obtain ⟨q0, q1, qf⟩ := HI4.out.rep.cells HM.out
                    obtain ⟨hI5, hF5⟩ := HI4.out.bump HM.out (k' := k' + 1) (u := (k' : Int) + 1) (by omega)
                    have HI5 := Lib.hid hI5
                    have HJ5 := Lib.hid (HJ.out cs m _ _ HJ4.out hF5)
                    clear hI5 hF5 hB4 hI3 hJ3 HI4 HJ4 hap
                    go_upto_region 14 with (fail)
                    obtain ⟨w5, hw5⟩ : ∃ W, wc.setCell ⟨g, (M - 1) * 2 + 1, none⟩ (.int .i64 ((k' : Int) + 1)) = W := ⟨_, rfl⟩
                    rw [hw5] at HI5 HJ5 ⊢
                    clear q0 q1 qf hw5
                    have HC5 := Lib.hid (cellN_of (HI5.out.rep.cells HM.out).2.1)
                    have hpt := pointer_any p w5 hpr.1.2.1 hpr.1.2.2
                    have hmet := run_met w5 w.heap.size m p HI5.out.rep.map
                    have HPASS := Lib.hid (fun (h : ptrW p = false ∨ p ∈ m) => (show WalkNow L rest T m (s0 ++ [(x, k' + 1)]) by
                      have e := HPP.out
                      have e2 := HP.out
                      subst e
                      exact hN3.out.pass HWF.out HOPN.out hlt3 (by rw [e2]; exact h)))
                    have HPUSH := Lib.hid (fun (h : ptrW p = true ∧ p ∉ m) => (show WalkNow L rest T m ((s0 ++ [(x, k' + 1)]) ++ [(p, 0)]) by
                      have e := HPP.out
                      have e2 := HP.out
                      subst e
                      have := hN3.out.push HWF.out HOPN.out hlt3 (by rw [e2]; exact h)
                      rw [e2] at this
                      exact this))
                    clear hN3 hpr
                    cases hpp : ptrW p with
                    | false =>
                      rw [hpp] at hpt
                      have HNS := Lib.hid (HPASS.out (.inl hpp))
                      clear hmet HPUSH HPASS hpp
                      go_wp2_with (go_at_call 126; refine hpt.mono ?_; rintro e w6 ⟨rfl, rfl⟩)
                      go_roundw
                      case rel => exact ⟨rfl, k' + 1, hlt3, HI5, HJ5, HNS⟩
                      case measure =>
                        rw [HC5.out, HC3.out]
                        omega
                    | true =>
                      rw [hpp] at hpt
                      by_cases hm : p ∈ m
                      · have hmt := hmet.1 hm
                        have HNS := Lib.hid (HPASS.out (.inr hm))
                        clear hmet HPUSH HPASS hpp hm
                        go_wp2_with (go_at_call 126; refine hpt.mono ?_; rintro e w6 ⟨rfl, rfl⟩)
                        go_roundw
                        case rel => exact ⟨rfl, k' + 1, hlt3, HI5, HJ5, HNS⟩
                        case measure =>
                          rw [HC5.out, HC3.out]
                          omega
                      · have hmt := hmet.2 hm
                        have HNS := Lib.hid (HPUSH.out ⟨hpp, hm⟩)
                        have HROW := Lib.hid (HI5.out.row HM.out)
                        have hlo5 := HI5.out.rep.los
                        obtain ⟨i0, hi, hz0, hz1, hz2⟩ := info_parts step_info
                        clear hmet HPUSH HPASS hpp hm
                        go_wp2_with (first | (go_at_call 126; refine hpt.mono ?_; rintro e w6 ⟨rfl, hw6⟩; subst hw6) | (at_builtin; refine wpList_append_own_at _ rfl (.tmp 106) (.tmp 109) _ rfl w.heap.size 183 i0 (.agg #[.int .u64 0, .int .i64 0]) 2 16 Tryd.underlying181 hi hz0 hz1 hz2 rfl (by decide) _ M (encPs (s0 ++ [(x, k' + 1)])) rfl (HROW.out.alloc _) _ 1 1 [.int .u64 p, .int .i64 0] rfl rfl (World.news_of_block (cs := #[.int .u64 p, .int .i64 0]) (t := 183) (fr := (0, 0)) (heap_alloc_new _ _)) one2s (by unfold maxLen; omega) (by omega) (by rw [World.size_alloc]; omega) ?_; intro v7 w7 hown7 hgrow7 hnil7 hat7))
                        obtain ⟨hI7, hF7⟩ := HI5.out.push HM.out (below_one _ _) hgrow7 hown7 hat7
                        have HI7 := Lib.hid hI7
                        have HJ7 := Lib.hid (HJ.out cs m _ _ HJ5.out hF7)
                        obtain ⟨A7, c7, rfl⟩ := row_slice hown7
                        try simp only [Exit.noGoto_normal]
                        go_roundw
                        case rel => exact ⟨cs, m, _, HI7, HJ7, HNS⟩
                        case measure =>
                          rw [HI7.out.cnt, HCNT.out]
                          simp only [sliceLen]
                          exact left_push (by omega) hstl
                · have hk2 : k' = P.length := by omega
                  have hbl3 : decide ((k' : Int) < (P.length : Int)) = false := decide_eq_false (by omega)
                  have HDN := Lib.hid (show WalkNow L rest T (m ++ [x]) s0 by
                    have e := HPP.out
                    subst e
                    exact hN3.out.done HWF.out HOPN.out (by omega))
                  have hmt := (run_met wr w.heap.size m x hI3.out.rep.map).2 HOPN.out.2
                  obtain ⟨w6, hup, hm6, hg6⟩ := run_meet wr w.heap.size m x hI3.out.rep.map HOPN.out.2
                  obtain ⟨hI6, hF6⟩ := hI3.out.meet hm6 hg6
                  have HI6 := Lib.hid hI6
                  have HJ6 := Lib.hid (HJ.out cs m _ _ hJ3.out hF6)
                  have hpre := HDN.out.pre
                  have HLEN := Lib.hid HDN.out.met.len
                  clear hm6 hg6 hI6 hF6 hI3 hJ3 hN3
                  have hcl := HY.out cs m x w6 HJ6.out HI6.out.rep.csl hpre
                  have HPRE := Lib.hid hpre
                  clear hpre
                  go_wp2_with fail
                  refine hcl.mono ?_
                  rintro e W7 ⟨cs', (⟨rfl, hj7⟩ | ⟨rfl, hj7⟩), hk7⟩
                  · have HI7 := Lib.hid ((HI6.out.kept hk7).pop HM.out)
                    have HJ7 := Lib.hid hj7
                    clear hj7 hk7 hcl
                    go_wp2
                    try simp only [Exit.noGoto_normal]
                    go_roundw
                    case rel => exact ⟨cs', m ++ [x], s0, HI7, HJ7, HDN⟩
                    case measure =>
                      rw [HI7.out.cnt, HCNT.out]
                      simp only [sliceLen]
                      have hl := HLEN.out
                      rw [List.length_append, List.length_singleton] at hl ⊢
                      have := left_done (n := L.length) (c := m.length) (l := M - 1) (by omega) (by omega)
                      rw [show M - 1 + 1 = M by omega] at this
                      exact this
                  · have HJ7 := Lib.hid hj7
                    clear hj7 hk7 hcl
                    go_wp2
                    try rw [Exit.noGoto_ret]
                    go_wp2
                    refine bodyPost_ret (results_none rfl _ _ _) rfl ?_
                    exact ⟨⟨_, rfl⟩, .inr ⟨cs', m ++ [x], HPRE.out, HJ7.out⟩⟩
    · have hHE := Lib.hid (show J cs T wr by
        have e : roots.drop j = [] := List.drop_eq_nil_of_le (by omega)
        have h1 := hN.out
        rw [e] at h1
        rw [← h1.fin]
        exact hJc.out)
      clear hI hJc hN
      go_wp2
      go_end0
      exact ⟨⟨_, rfl⟩, .inl ⟨cs, hHE.out⟩⟩
end Go.Proofs.YthgnihckeckaiaaDoor.Tm
