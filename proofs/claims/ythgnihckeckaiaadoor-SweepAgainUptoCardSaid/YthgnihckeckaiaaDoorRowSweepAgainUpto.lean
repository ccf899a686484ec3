/- SweepAgainUpto: the row over its walk, and the tied card. -/
import Derived.Test.YthgnihckeckaiaaDoorRows
import Derived.Test.YthgnihckeckaiaaDoorSlG
import Derived.Test.YthgnihckeckaiaaDoorOpnA
import Derived.Test.YthgnihckeckaiaaDoorOpnD
import Derived.Test.YthgnihckeckaiaaDoorOpnE
import Derived.Test.YthgnihckeckaiaaDoorOpnR
import Derived.Test.YthgnihckeckaiaaDoorHead
import Derived.Test.YthgnihckeckaiaaDoorCards
import Derived.Test.YthgnihckeckaiaaDoorTie
import Derived.WalkKit
import Derived.ProofKit
import Derived.OpenShut
import Derived.ShutString
import Derived.ChangeOld
import Derived.ChangeSame
import Derived.ChangeVars
import Derived.JoinedOf
import Derived.Handed
import Derived.Below
import Derived.SizedLaws
import Derived.LaidLaws
import Derived.LaidHandle
import Derived.SevenTiedAt
import Derived.Deep.DeepHandedRow
import Derived.JoinedCond
import Derived.Stop.Joined
namespace Go.Proofs.YthgnihckeckaiaaDoor.sweepAgainUpto
open Go.ChangeShapes Go.WideShapes Go.ChangeAt Go.RowKit
open Go.ChangeMaps (open_string shut_string)
set_option linter.unusedVariables false
theorem own : ownKnob Tryd.prog.godebug = none := by kernel_rfl
set_option maxRecDepth 100000 in
theorem lifted (os : Os) (started : os.Started) (H : Type) (enc : TypeId × Value → H) (F : Stop.Interp) :
    ReturnsInHanded {} Tryd.checked os 16 .any ((Rows.OpenSpec.upto Rows.sweepAgainSpec).preRow enc Tryd.prog Tryd.f16 Rows.sweepAgainUptoRow.domain false Rows.sweepAgainUptoRow.laid) (((Rows.OpenSpec.upto Rows.sweepAgainSpec).at F).post enc Tryd.prog Tryd.f16 false true false false) := by
  obtain ⟨places, hx⟩ : ∃ places, DataW.whole enc Tryd.prog ((Tm.laidWorld os).forCall (fun _ _ => 0) ⟨#[], #[.slice none 0 0, .slice none 0 0, .slice none 0 0], []⟩).memory Tryd.f16.params.toList Rows.sweepAgainSpec.vars false (#[.slice none 0 0, .slice none 0 0, .slice none 0 0] : Array Value).toList 8 = some ([.nil, .nil, .nil], [], places) := ⟨[], by kernel_rfl⟩
  refine returnsInHanded_of_row (C := Tryd.checked) (s := Rows.OpenSpec.upto Rows.sweepAgainSpec) own started (by kernel_rfl) Tryd.func16
    (witness_row_at (enc := enc) (C := Tryd.checked) false (Tm.laidWorld os) #[.slice none 0 0, .slice none 0 0, .slice none 0 0] rfl (by kernel_rfl) (by kernel_rfl) (by kernel_rfl)
      (OpenSpec.preRow_of_cond 8 hx (by kernel_rfl) (fun k hk => by cases hk; kernel_rfl) (by kernel_rfl) (Tm.laid_met os _))) ?_
  intro W base args ds gs before hval0 hW _ hcond hsz0 hL _ _
  have hcd : Rows.uptoSmall H (ds ++ gs) = true := hcond _ rfl
  have hsz : (DataW.weightsEach Tryd.prog (Tryd.f16.params.toList ++ Rows.sweepAgainSpec.plain.varTypes Tryd.prog) (ds ++ gs)).all (· ≤ reachBytes) = true := hsz0
  have hval : ∀ (j : Nat) t v, Tryd.f16.params[j]? = some t → args[j]? = some v → Value.okWide Tryd.prog W .any base t v := hval0
  have hT := Tm.tabs_of_laid hL
  have hW' := hW
  obtain ⟨p, q, hA0, hV, rfl, hfz, hnd⟩ := hW
  have hA : DataW.TrodAll enc Tryd.prog W 0 (fun _ => true) true Tryd.f16.params.toList args.toList ds p := hA0
  rw [Tryd.params16] at hA hval hsz
  obtain ⟨v0, vs0, d0, ds0, p0, q0, hargs, rfl, rfl, h0, r0⟩ := trodAll_cons hA
  obtain ⟨v1, vs1, d1, ds1, p1, q1, rfl, rfl, rfl, h1, r1⟩ := trodAll_cons r0
  obtain ⟨v2, vs2, d2, ds2, p2, q2, rfl, rfl, rfl, h2, r2⟩ := trodAll_cons r1
  obtain ⟨rfl, rfl, rfl⟩ := trodAll_nil r2
  obtain rfl : args = #[v0, v1, v2] := by cases args; simp_all
  obtain ⟨rfl, rfl⟩ := trodVars_none hV
  obtain ⟨a0, len0, cap0, rfl⟩ := okWide_slice Tryd.underlying84 (hval 0 84 v0 rfl rfl)
  have k0 := h0
  have lt0 : ∀ x ∈ p0, x.block < W.heap.size := by obtain ⟨m, hm⟩ := k0; exact DataW.trod_lt m _ _ _ hm
  obtain ⟨z0, rfl, c0, g0, s0, y0⟩ := Tm.open_ops4 Tryd.underlying84 Tryd.underlying149 (by kernel_rfl) (by kernel_rfl) (by kernel_rfl) (by kernel_rfl) rfl rfl Tryd.underlying22 Tryd.underlying40 (by kernel_rfl) (by kernel_rfl) (by kernel_rfl) (by kernel_rfl) (by kernel_rfl) (by kernel_rfl) Tryd.underlying66 Tryd.underlying3 (by kernel_rfl) (by kernel_rfl) h0 (fun n hn => by simpa using List.all_eq_true.1 hsz n (DataW.weights_mem_each (j := 0) rfl rfl n hn))
  obtain ⟨a1, len1, cap1, rfl⟩ := okWide_slice Tryd.underlying85 (hval 1 85 v1 rfl rfl)
  have k1 := h1
  have lt1 : ∀ x ∈ p1, x.block < W.heap.size := by obtain ⟨m, hm⟩ := k1; exact DataW.trod_lt m _ _ _ hm
  obtain ⟨z1, rfl, c1, g1, s1, e1⟩ := Tm.open_roots Tryd.underlying85 Tryd.underlying150 (by kernel_rfl) (by kernel_rfl) (by kernel_rfl) (by kernel_rfl) (by kernel_rfl) h1
  have y1 : z1.length * 24 ≤ 140737488351232 := Tm.sized_cells hsz (j := 1) (t := 85) rfl rfl Tryd.underlying85 (by kernel_rfl) e1
  have b1 : z1.length ≤ 1048576 := Nat.le_trans (Tm.bulk_slice e1) (Tm.small_of hcd (by simp))
  obtain ⟨a2, len2, cap2, rfl⟩ := okWide_slice Tryd.underlying22 (hval 2 22 v2 rfl rfl)
  have k2 := h2
  have lt2 : ∀ x ∈ p2, x.block < W.heap.size := by obtain ⟨m, hm⟩ := k2; exact DataW.trod_lt m _ _ _ hm
  obtain ⟨z2, rfl, c2, g2, s2, e2⟩ := Tm.open_acells Tryd.underlying22 Tryd.underlying40 (by kernel_rfl) (by kernel_rfl) (by kernel_rfl) (by kernel_rfl) (by kernel_rfl) h2
  have y2 : z2.length * 32 ≤ 140737488351232 := Tm.sized_cells hsz (j := 2) (t := 22) rfl rfl Tryd.underlying22 (by kernel_rfl) e2
  have b2 : z2.length ≤ 1048576 := Nat.le_trans (Tm.bulk_slice e2) (Tm.small_of hcd (by simp))
  clear hA0 hval0 hsz0 hsz hL
  refine (Tm.sweepAgain_row a0 cap0 z0 a1 cap1 z1 a2 cap2 z2 W hT c0 g0 s0 y0 c1 g1 s1 b1 c2 g2 s2 b2).mono fun e W' ⟨he, bel⟩ => ?_
  subst he
  exact ⟨_, rfl, _, _, _, [], _, [], hW', trodAll_mk1 (shut_bool Tryd.underlying4 _), (trodAll_cons_mk (Below.trod Tm.laidOut (by kernel_rfl) (of_decide_eq_true (by kernel_rfl)) k0 bel lt0) (trodAll_cons_mk (Below.trod Tm.laidOut (by kernel_rfl) (of_decide_eq_true (by kernel_rfl)) k1 bel lt1) (trodAll_cons_mk (Below.trod Tm.laidOut (by kernel_rfl) (of_decide_eq_true (by kernel_rfl)) k2 bel lt2) trodAll_mk0))), rfl, bel.frame _, fun h => by cases h⟩
theorem inPl : (Rows.sweepAgainUptoRow.inPlace == Tryd.prog.inPlace 16) = true := by kernel_rfl
theorem unFo : (Rows.sweepAgainUptoRow.unfollowed == Tryd.prog.unfollowed 16) = true := by kernel_rfl
theorem reCu : (Rows.sweepAgainUptoRow.recurses == Tryd.prog.recurses 16) = true := by kernel_rfl
theorem vaNa : (Rows.sweepAgainUptoRow.named == Tryd.prog.varsNamed 16) = true := by kernel_rfl
theorem closed : joinedFacts Tryd.prog 16 Tryd.f16 (Rows.OpenSpec.upto Rows.sweepAgainSpec).bare Rows.sweepAgainUptoRow = true := by
  unfold joinedFacts
  rw [inPl, unFo, reCu, vaNa, Tm.enters, Tm.lifts, Tm.makes, Tm.laidOut, Tm.rowed, Tm.keys, Tm.heard]
  kernel_rfl
theorem over : Rows.sweepAgainUptoRow.holds Tryd.pinned (Rows.OpenSpec.upto Rows.sweepAgainSpec) :=
  OpenClaim.holds_of_cond 16 Tryd.f16 rfl rfl rfl rfl rfl rfl rfl ⟨rfl, rfl, rfl, rfl, rfl⟩ rfl rfl rfl rfl rfl (by kernel_rfl) Tryd.func16 closed
    (of_decide_eq_true (by kernel_rfl)) (by unfold Func.isWrapper; first | (rw [if_pos (by decide +kernel)]; kernel_rfl) | (rw [if_neg (by decide +kernel)]; exact ⟨rfl, rfl⟩))
    (fun os started H enc _ F => by rw [OpenClaim.pre_eq_preRow]; exact lifted os started H enc F)
theorem proved : Rows.SweepAgainUptoSaid := over
theorem card : Rows.SweepAgainUptoCardSaid :=
  Claim7.holds_tied_plain_at .later [] [.data, .data, .pinned] true Rows.sweepAgainUptoCard.stood.harness false
    proved (fun _ h => by cases h) (by kernel_rfl) (fun _ h => by cases h) sweepAgainUpto_row_tie rfl ⟨rfl, rfl⟩ Tm.mains rfl
    (fun f fn hf hfn => by
      obtain rfl : f = 16 := Option.some.inj ((show Tryd.prog.funcNamed "parley/parleylaw23.SweepAgain" = some 16 by kernel_rfl).symm.trans hf) |>.symm
      obtain rfl : fn = Tryd.f16 := (Option.some.inj (Tryd.func16.symm.trans hfn)).symm
      exact ⟨Tm.lookB.symm, fun j t ht => by
        rw [Tryd.params16] at ht
        have hall : ∀ t ∈ ([84, 85, 22] : List TypeId), Tryd.prog.wantsStandIn t = false := by
          intro t ht
          simp only [List.mem_cons, List.mem_nil_iff, or_false] at ht
          rcases ht with rfl | rfl | rfl
          · kernel_rfl
          · kernel_rfl
          · kernel_rfl
        exact hall t (List.mem_of_getElem? (i := j) (by simpa using ht))⟩)
    (by kernel_rfl)
#print axioms card
end Go.Proofs.YthgnihckeckaiaaDoor.sweepAgainUpto
namespace Go.Proofs.YthgnihckeckaiaaDoor
/-- The card, under a short name, for the claim. -/
theorem sweepAgainUpto_card : Rows.SweepAgainUptoCardSaid := sweepAgainUpto.card
end Go.Proofs.YthgnihckeckaiaaDoor
