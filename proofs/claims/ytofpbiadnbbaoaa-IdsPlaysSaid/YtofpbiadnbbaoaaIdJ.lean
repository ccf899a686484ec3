/- layer 13: the law's 'all': what All tells, up to most. -/
import Derived.RangeFuncNested
import Derived.Test.YtofpbiadnbbaoaaIdI
namespace Go.Proofs.Ytofpbiadnbbaoaa.Ids
open Go.RowKit Go.Shelf
set_option linter.unusedVariables false
set_option linter.unusedSimpArgs false
attribute [local go_sem] Oper.semAt_some
theorem Try.info2 : (Try.prog.info? 2).map (fun i => (i.zero, i.size, i.bytes)) = some (some (.int .i64 0), 1, 8) := by kernel_rfl

theorem run_equalIn_func_nil {P : Program} (w : World) (d : Nat) {t : TypeId} {x y : Array TypeId} {z : Bool} (h : P.underlying t = some (.func x y z)) (fn : Fn) (first captured : Array Value) :
    (Op.equalIn (d + 1) t (.func fn first captured) .nilFunc).run P w = .ok false w := by
  simp [Op.equalIn, run_underlying h]
theorem run_eql_func_nil {P : Program} (w : World) {t : TypeId} {x y : Array TypeId} {z : Bool} (h : P.underlying t = some (.func x y z)) (fn : Fn) (first captured : Array Value) :
    (binOp .eql t (.func fn first captured) .nilFunc).run P w = .ok (.bool false) w := by
  simp only [binOp]
  simp [Op.equal, Op.maxDepth, run_equalIn_func_nil w 9999 h]

/-- What 'all' gathers. -/
def GatheredBy (S Sp : List Int → Prop) (most : Int) (ys : List Int) : Prop := (S ys ∧ ((ys.length : Int) < most ∨ most ≤ 0)) ∨ (Sp ys ∧ (ys.length : Int) = most ∧ 0 < ys.length)

set_option maxRecDepth 100000 in
set_option maxHeartbeats 2000000 in
theorem lawAll_gen (n : Nat) (hn : 5 ≤ n) (p0 : Option Addr) (most : Int) (w : World) (S Sp : List Int → Prop)
    (hseq : SeqStopsK Fence.wide (n - 1) Try.prog 53 #[.pointer (some ⟨w.heap.size + 1 + 1, 0, none⟩)] (fun x : Int => #[Value.int .i64 x]) (KpB w.heap.size (w.heap.size + 1 + 1)) S Sp 64 (((w.alloc (.cells #[.int .i64 most] 3)).alloc (.cells #[.slice none 0 0] 52)).alloc (.cells #[.pointer p0] 50))) :
    CallsIn Fence.wide n Try.prog 37 #[.pointer p0, .int .i64 most] w fun e W' => ∃ v ys, e = .returned v ∧ W'.ownsRow w.heap.size 2 1 v ys.length (ys.map (Value.int .i64)) ∧ GatheredBy S Sp most ys ∧ Below w.heap.size w W' := by
  have hseq' := Lib.hid hseq
  clear hseq
  have h1 : 1 ≤ n := by omega
  have hF52 : Fence.wide.fn 52 := trivial
  obtain ⟨i0, hi, hz0, hz1, hz2⟩ := info_parts Try.info2
  refine callsIn_of_wp_marks Try.func37 rfl trivial ?_ rfl
  simp only [Try.ntmps37, List.size_toArray, List.length_cons, List.length_nil, Nat.reduceAdd, Nat.reduceSub, Array.replicate_succ, Array.replicate_zero, List.push_toArray, List.append_toArray, List.nil_append, List.cons_append]
  have heq := fun (W : World) fn first captured => run_eql_func_nil (P := Try.prog) W Try.underlying74 fn first captured
  gi_wp2_with (gi_at_call 52; refine (all_in (n - 1) _ _).mono ?_; rintro e w' ⟨rfl, rfl⟩)
  have bM := Boxed.new w 3 (.int .i64 most)
  have bO := Boxed.new (w.alloc (.cells #[.int .i64 most] 3)) 52 (.slice none 0 0)
  have bN := Boxed.new ((w.alloc (.cells #[.int .i64 most] 3)).alloc (.cells #[.slice none 0 0] 52)) 50 (.pointer p0)
  rw [World.size_alloc] at bO
  rw [World.size_alloc, World.size_alloc] at bN
  have hB0 : Below w.heap.size w (((w.alloc (.cells #[.int .i64 most] 3)).alloc (.cells #[.slice none 0 0] 52)).alloc (.cells #[.pointer p0] 50)) := (((Below.refl _ w).alloc (Nat.le_refl _) _).alloc (by simp) _).alloc (by simp; omega) _
  clear heq
  refine wpIn_rangeFunc_ownG rfl h1 (gf := 53) (lb := #[.pointer (some ⟨w.heap.size + 1 + 1, 0, none⟩)]) rfl trivial (enters_of Try.func53 (by kernel_rfl) rfl)
    hseq'.out kpB_t (kpB_b (by simp; omega) (by simp)) (Below.refl _ _) (fun _ => rfl)
    (fun pre W => ((∃ v, Boxed W (w.heap.size + 1) 52 v ∧ W.ownsRow w.heap.size 2 1 v pre.length (pre.map (Value.int .i64)) ∧ True) ∧ (Boxed W w.heap.size 3 (.int .i64 most) ∧ Boxed W (w.heap.size + 1 + 1) 50 (.pointer p0))) ∧ (Below w.heap.size w W ∧ ((pre.length : Int) < most ∨ most ≤ 0)))
    (fun cd pre W => ((∃ v, Boxed W (w.heap.size + 1) 52 v ∧ W.ownsRow w.heap.size 2 1 v pre.length (pre.map (Value.int .i64)) ∧ True) ∧ (Boxed W w.heap.size 3 (.int .i64 most) ∧ Boxed W (w.heap.size + 1 + 1) 50 (.pointer p0))) ∧ (Below w.heap.size w W ∧ (cd = .exit 0 ∧ (pre.length : Int) = most ∧ 0 < pre.length)))
    (OwnFrom.and (OwnFrom.and (Own.from (holdsRow_own w.heap.size (w.heap.size + 1) 52 2 1 (fun (pre : List Int) => pre.length) (fun (pre : List Int) => pre.map (Value.int .i64)) (fun _ _ => True)) _) (OwnFrom.and (Own.from (boxed_own _ _ (fun _ => .int .i64 most)) _) (Own.from (boxed_own _ _ (fun _ => .pointer p0)) _))) (OwnFrom.and (ownFrom_below (Nat.le_refl _) (by simp; omega)) (ownFrom_pure _ _)))
    (fun cd => OwnFrom.and (OwnFrom.and (Own.from (holdsRow_own w.heap.size (w.heap.size + 1) 52 2 1 (fun (pre : List Int) => pre.length) (fun (pre : List Int) => pre.map (Value.int .i64)) (fun _ _ => True)) _) (OwnFrom.and (Own.from (boxed_own _ _ (fun _ => .int .i64 most)) _) (Own.from (boxed_own _ _ (fun _ => .pointer p0)) _))) (OwnFrom.and (ownFrom_below (Nat.le_refl _) (by simp; omega)) (ownFrom_pure _ _)))
    ⟨⟨⟨_, bO.alloc _, World.ownsRow_nil _ _ _ _, trivial⟩, (bM.alloc _).alloc _, bN⟩, hB0, by simp; omega⟩
    (fun x => { tmps := #[.pointer p0, .int .i64 most, undef, .pointer (some ⟨w.heap.size, 0, none⟩), .slice none 0 0, .pointer (some ⟨w.heap.size + 1, 0, none⟩), .func (.func 53) #[] #[.pointer (some ⟨w.heap.size + 1 + 1, 0, none⟩)], .int .i64 x, .pointer p0, .func (.func 53) #[] #[.pointer (some ⟨w.heap.size + 1 + 1, 0, none⟩)], .func (.func 53) #[] #[.pointer (some ⟨w.heap.size + 1 + 1, 0, none⟩)], .bool false, .func (.func 53) #[] #[.pointer (some ⟨w.heap.size + 1 + 1, 0, none⟩)], .int .i64 x, undef, undef, undef, undef, undef, undef, undef, undef, undef], defers := [] }) ?assign ?body ?done ?stop
  case assign =>
    intro l x W K hK
    gi_wp2
    exact hK
  case body =>
    rintro l₀ pre x W ⟨⟨⟨v, hv, hrow, _⟩, hbm, hbp⟩, hB, hmost⟩ hlt
    have hc := hv.cell
    have hm := hbm.cell
    gi_wp2_with (gi_at_builtin; refine wpListIn_append_own _ rfl _ _ 52 rfl w.heap.size 2 i0 (.int .i64 0) 1 8 Try.underlying52 hi hz0 hz1 hz2 rfl (by decide) _ _ _ rfl (hrow.alloc _) ⟨W.heap.size, 0, none⟩ 1 1 [.int .i64 x] rfl rfl (cell_one_new _ _ _) (by simp [Value.oneCell']) (by unfold maxLen; omega) (by omega) (by have := hB.size; simp; omega) ?_; intro v' w1 hown' hgrow _; obtain ⟨g', cap', rfl⟩ := ownsRow_succ hown'; obtain ⟨hv1, hv2, hr2, hk2, hb2⟩ := hv.appended (by decide) hrow hB.size (by omega) hown' hgrow; have hc1 := hv1.cell; have hf1 := hv1.frozen; have hbm1 := (hbm.alloc _).kept hgrow (hbm.not_row (by decide) hrow); have hcm1 := hbm1.cell; have hbp1 := (hbp.alloc _).kept hgrow (hbp.not_row (by decide) hrow))
    · have hq : (pre.length : Int) + 1 = most := eq_of_beq (by assumption)
      exact ⟨hk2.from _, ⟨⟨_, hv2, by simpa using hr2, trivial⟩, hbm1.other (by omega) _, hbp1.other (by omega) _⟩, hB.trans hb2, rfl, by simp; omega, by simp⟩
    · have hq : ¬ (pre.length : Int) + 1 = most := beq_eq_false_iff_ne.1 (by assumption)
      exact ⟨hk2.from _, ⟨hb2, (hbp1.other (by omega) _).trans hbp.symm⟩, ⟨⟨_, hv2, by simpa using hr2, trivial⟩, hbm1.other (by omega) _, hbp1.other (by omega) _⟩, hB.trans hb2, by simp; omega⟩
  case done =>
    rintro D ys W hD hAll ⟨⟨⟨v, hv, hrow, _⟩, hbm, _⟩, hB, hmost⟩ hK
    have hc := hv.cell
    gi_wp2
    refine ⟨by simp, .inl ⟨_, _, rfl, run_takeDeferred hK, ?_⟩⟩
    exact ⟨_, results_tmp rfl _ _ _, v, ys, rfl, ownsRow_putObj hrow _ hK rfl, Or.inl ⟨hAll, hmost⟩, hB.trans (belowK_b (w := w) (Nat.le_refl _) W D _ _ (by simp at hD; omega) hK rfl rfl)⟩
  case stop =>
    rintro D cd pre W hD hBeg ⟨⟨⟨v, hv, hrow, _⟩, hbm, _⟩, hB, rfl, hmost⟩ hK
    have hc := hv.cell
    gi_wp2
    refine ⟨by simp, .inl ⟨_, _, rfl, run_takeDeferred hK, ?_⟩⟩
    exact ⟨_, results_tmp rfl _ _ _, v, pre, rfl, ownsRow_putObj hrow _ hK rfl, Or.inr ⟨hBeg, hmost⟩, hB.trans (belowK_b (w := w) (Nat.le_refl _) W D _ _ (by simp at hD; omega) hK rfl rfl)⟩

theorem lawAll_any (b c : Nat) (most : Int) (l : List (Int × Bool)) (hI : PInv l) (w : World) (hP : PidsAt w b c l) :
    Calls Try.prog 37 #[.pointer (some ⟨b, 0, none⟩), .int .i64 most] w fun e W' => ∃ v ys, e = .returned v ∧ W'.ownsRow w.heap.size 2 1 v ys.length (ys.map (Value.int .i64)) ∧ GatheredBy (AllOf l) (Begin l) most ys ∧ Below w.heap.size w W' := by
  have hB0 : Below w.heap.size w (((w.alloc (.cells #[.int .i64 most] 3)).alloc (.cells #[.slice none 0 0] 52)).alloc (.cells #[.pointer (some ⟨b, 0, none⟩)] 50)) := (((Below.refl _ w).alloc (Nat.le_refl _) _).alloc (by simp) _).alloc (by simp; omega) _
  have bN := Boxed.new ((w.alloc (.cells #[.int .i64 most] 3)).alloc (.cells #[.slice none 0 0] 52)) 50 (.pointer (some ⟨b, 0, none⟩))
  rw [World.size_alloc, World.size_alloc] at bN
  exact callsIn_wide.1 (lawAll_gen 6 (by omega) _ most w _ _ (all_stops 5 (by omega) (w.heap.size + 1 + 1) w.heap.size b c l hI _ bN.cell (by simp) (hP.below hB0) hP.ltb hP.ltc (by simp; omega)))
theorem lawAll_nil (most : Int) (w : World) :
    Calls Try.prog 37 #[.pointer none, .int .i64 most] w fun e W' => ∃ v, e = .returned v ∧ W'.ownsRow w.heap.size 2 1 v 0 [] ∧ Below w.heap.size w W' := by
  have bN := Boxed.new ((w.alloc (.cells #[.int .i64 most] 3)).alloc (.cells #[.slice none 0 0] 52)) 50 (.pointer none)
  rw [World.size_alloc, World.size_alloc] at bN
  refine (callsIn_wide.1 (lawAll_gen 6 (by omega) _ most w _ _ (nil_stops 5 (by omega) (w.heap.size + 1 + 1) w.heap.size _ bN.cell (by simp)))).mono ?_
  rintro e W' ⟨v, ys, he, hr, (⟨rfl, _⟩ | ⟨h, _⟩), hB⟩
  · exact ⟨v, he, hr, hB⟩
  · exact h.elim
end Go.Proofs.Ytofpbiadnbbaoaa.Ids
