/- OrderCompares: the row over its walk, and the tied card. -/
import Derived.Test.YtfeaolnklooanaaDoorRows
import Derived.Test.YtfeaolnklooanaaDoorOComp
import Derived.Test.YtfeaolnklooanaaDoorOpn
import Derived.Test.YtfeaolnklooanaaDoorHead
import Derived.Test.YtfeaolnklooanaaDoorCards
import Derived.Test.YtfeaolnklooanaaDoorTie
import Derived.WalkKit
import Derived.ProofKit
import Derived.OpenShut
import Derived.ShutString
import Derived.ChangeOld
import Derived.ChangeSame
import Derived.ChangeVars
import Derived.JoinedOf
import Derived.Handed
import Derived.Below
import Derived.SizedLaws
import Derived.LaidLaws
import Derived.LaidHandle
import Derived.SevenTiedAt
namespace Go.Proofs.YtfeaolnklooanaaDoor.orderCompares
open Go.ChangeShapes Go.WideShapes Go.ChangeAt Go.RowKit
open Go.ChangeMaps (open_string shut_string)
set_option linter.unusedVariables false
theorem own : ownKnob Tryd.prog.godebug = none := by kernel_rfl
set_option maxRecDepth 100000 in
theorem lifted (os : Os) (started : os.Started) (H : Type) (enc : TypeId × Value → H) :
    ReturnsInHanded {} Tryd.checked os 5 .any (fun w args => (Rows.orderComparesSpec.pre enc Tryd.prog Tryd.f5 [] false w args ∧ laidMetH Tryd.prog Tm.laidL w) ∧ sizedMet enc Tryd.prog Tryd.f5 (OpenSpec.ofChange Rows.orderComparesSpec) false w args) (Rows.orderComparesSpec.post enc Tryd.prog Tryd.f5 false true false false) := by
  refine returnsInHanded_of_change_and (C := Tryd.checked) (X := fun w _ => laidMetH Tryd.prog Tm.laidL w) (fun _ _ _ hh h => h.of_heap hh) own started (by kernel_rfl) Tryd.func5
    (ChangeSpec.witness_at (enc := enc) (C := Tryd.checked) (os := os) (X := fun w _ => laidMetH Tryd.prog Tm.laidL w) false (Tm.laidWorld os) #[.slice none 0 0, .slice none 0 0, .slice none 0 0] 8 rfl (by kernel_rfl) (by kernel_rfl) (by kernel_rfl) (by kernel_rfl) (by kernel_rfl) (Tm.laid_met os _)) ?_
  intro W base args ds gs before hval0 hW _ hsz0 hL _
  have hsz : (DataW.weightsEach Tryd.prog (Tryd.f5.params.toList ++ Rows.orderComparesSpec.plain.varTypes Tryd.prog) (ds ++ gs)).all (· ≤ reachBytes) = true := hsz0
  have hval : ∀ (j : Nat) t v, Tryd.f5.params[j]? = some t → args[j]? = some v → Value.okWide Tryd.prog W .any base t v := hval0
  have hT := Tm.tabs_of_laid hL
  have hW' := hW
  obtain ⟨p, q, hA0, hV, rfl, hfz, hnd⟩ := hW
  have hA : DataW.TrodAll enc Tryd.prog W 0 (fun _ => true) true Tryd.f5.params.toList args.toList ds p := hA0
  rw [Tryd.params5] at hA hval hsz
  obtain ⟨v0, vs0, d0, ds0, p0, q0, hargs, rfl, rfl, h0, r0⟩ := trodAll_cons hA
  obtain ⟨v1, vs1, d1, ds1, p1, q1, rfl, rfl, rfl, h1, r1⟩ := trodAll_cons r0
  obtain ⟨v2, vs2, d2, ds2, p2, q2, rfl, rfl, rfl, h2, r2⟩ := trodAll_cons r1
  obtain ⟨rfl, rfl, rfl⟩ := trodAll_nil r2
  obtain rfl : args = #[v0, v1, v2] := by cases args; simp_all
  obtain ⟨rfl, rfl⟩ := trodVars_none hV
  obtain ⟨a0, len0, cap0, rfl⟩ := okWide_slice Tryd.underlying22 (hval 0 22 v0 rfl rfl)
  have k0 := h0
  have lt0 : ∀ x ∈ p0, x.block < W.heap.size := by obtain ⟨m, hm⟩ := k0; exact DataW.trod_lt m _ _ _ hm
  obtain ⟨z0, rfl, c0, g0, s0, e0⟩ := Tm.open_cells Tryd.underlying22 Tryd.underlying47 (by kernel_rfl) (by kernel_rfl) (by kernel_rfl) (by kernel_rfl) (by kernel_rfl) h0
  have y0 : z0.length * 32 ≤ 140737488351232 := Tm.sized_cells hsz (j := 0) (t := 22) rfl rfl Tryd.underlying22 (by kernel_rfl) e0
  obtain ⟨a1, len1, cap1, rfl⟩ := okWide_slice Tryd.underlying22 (hval 1 22 v1 rfl rfl)
  have k1 := h1
  have lt1 : ∀ x ∈ p1, x.block < W.heap.size := by obtain ⟨m, hm⟩ := k1; exact DataW.trod_lt m _ _ _ hm
  obtain ⟨z1, rfl, c1, g1, s1, e1⟩ := Tm.open_cells Tryd.underlying22 Tryd.underlying47 (by kernel_rfl) (by kernel_rfl) (by kernel_rfl) (by kernel_rfl) (by kernel_rfl) h1
  have y1 : z1.length * 32 ≤ 140737488351232 := Tm.sized_cells hsz (j := 1) (t := 22) rfl rfl Tryd.underlying22 (by kernel_rfl) e1
  obtain ⟨a2, len2, cap2, rfl⟩ := okWide_slice Tryd.underlying29 (hval 2 29 v2 rfl rfl)
  have k2 := h2
  have lt2 : ∀ x ∈ p2, x.block < W.heap.size := by obtain ⟨m, hm⟩ := k2; exact DataW.trod_lt m _ _ _ hm
  obtain ⟨z2, rfl, c2, g2, s2, e2⟩ := Tm.open_cells2 Tryd.underlying29 Tryd.underlying22 Tryd.underlying47 (by kernel_rfl) (by kernel_rfl) (by kernel_rfl) (by kernel_rfl) (by kernel_rfl) (by kernel_rfl) (by kernel_rfl) h2 (fun n hn => by simpa using List.all_eq_true.1 hsz n (DataW.weights_mem_each (j := 2) rfl rfl n hn))
  have y2 : z2.length * 24 ≤ 140737488351232 := Tm.sized_cells hsz (j := 2) (t := 29) rfl rfl Tryd.underlying29 (by kernel_rfl) e2
  clear hA0 hval0 hsz0 hsz hL
  refine (Tm.ocomp_row a0 cap0 z0 a1 cap1 z1 a2 cap2 z2 W hT c0 g0 s0 y0 c1 g1 s1 y1 c2 g2 s2 y2).mono fun e W' ⟨he, bel⟩ => ?_
  subst he
  exact ⟨_, rfl, _, _, _, [], _, [], hW', trodAll_mk1 (shut_bool Tryd.underlying4 _), (trodAll_cons_mk (Below.trod Tm.laidOut (by kernel_rfl) (of_decide_eq_true (by kernel_rfl)) k0 bel lt0) (trodAll_cons_mk (Below.trod Tm.laidOut (by kernel_rfl) (of_decide_eq_true (by kernel_rfl)) k1 bel lt1) (trodAll_cons_mk (Below.trod Tm.laidOut (by kernel_rfl) (of_decide_eq_true (by kernel_rfl)) k2 bel lt2) trodAll_mk0))), rfl, bel.frame _, fun h => by cases h⟩
theorem inPl : (Rows.orderComparesRow.inPlace == Tryd.prog.inPlace 5) = true := by kernel_rfl
theorem unFo : (Rows.orderComparesRow.unfollowed == Tryd.prog.unfollowed 5) = true := by kernel_rfl
theorem reCu : (Rows.orderComparesRow.recurses == Tryd.prog.recurses 5) = true := by kernel_rfl
theorem vaNa : (Rows.orderComparesRow.named == Tryd.prog.varsNamed 5) = true := by kernel_rfl
theorem closed : joinedFacts Tryd.prog 5 Tryd.f5 Rows.orderComparesSpec Rows.orderComparesRow = true := by
  unfold joinedFacts
  rw [inPl, unFo, reCu, vaNa, Tm.enters, Tm.lifts, Tm.makes, Tm.laidOut, Tm.rowed, Tm.keys, Tm.heard]
  kernel_rfl
theorem over : Rows.orderComparesRow.holds Tryd.pinned (OpenSpec.ofChange Rows.orderComparesSpec) :=
  OpenClaim.holds_of_wide 5 Tryd.f5 rfl rfl rfl rfl rfl rfl rfl ⟨rfl, rfl, rfl, rfl, rfl⟩ rfl rfl rfl rfl rfl (by kernel_rfl) Tryd.func5 closed
    (of_decide_eq_true (by kernel_rfl)) (by unfold Func.isWrapper; first | (rw [if_pos (by decide +kernel)]; kernel_rfl) | (rw [if_neg (by decide +kernel)]; exact ⟨rfl, rfl⟩))
    (fun os started H enc _ => lifted os started H enc)
theorem proved : Rows.OrderComparesSaid := over
theorem card : Rows.OrderComparesCardSaid :=
  Claim7.holds_tied_plain_at .later [] [.data, .pinned] true Rows.orderComparesCard.stood.harness false
    proved (fun _ h => by cases h) (by kernel_rfl) (fun _ h => by cases h) orderCompares_row_tie rfl ⟨rfl, rfl⟩ Tm.mains rfl
    (fun f fn hf hfn => by
      obtain rfl : f = 5 := Option.some.inj ((show Tryd.prog.funcNamed "parley/parleylaw05.OrderCompares" = some 5 by kernel_rfl).symm.trans hf) |>.symm
      obtain rfl : fn = Tryd.f5 := (Option.some.inj (Tryd.func5.symm.trans hfn)).symm
      exact ⟨Tm.lookB.symm, fun j t ht => by
        rw [Tryd.params5] at ht
        have hall : ∀ t ∈ ([22, 22, 29] : List TypeId), Tryd.prog.wantsStandIn t = false := by
          intro t ht
          simp only [List.mem_cons, List.mem_nil_iff, or_false] at ht
          rcases ht with rfl | rfl | rfl
          · kernel_rfl
          · kernel_rfl
          · kernel_rfl
        exact hall t (List.mem_of_getElem? (i := j) (by simpa using ht))⟩)
    (by kernel_rfl)
#print axioms card
end Go.Proofs.YtfeaolnklooanaaDoor.orderCompares
namespace Go.Proofs.YtfeaolnklooanaaDoor
/-- The card, under a short name, for the claim. -/
theorem orderCompares_card : Rows.OrderComparesCardSaid := orderCompares.card
end Go.Proofs.YtfeaolnklooanaaDoor
