/- The law's told: what Objects tells, at most so many. -/
import Derived.Test.YthgnihckeckaiaaDoorDpO
namespace Go.Proofs.YthgnihckeckaiaaDoor.Tm
open Go.RowKit Go.Shelf
set_option linter.unusedVariables false
set_option linter.unusedSimpArgs false
attribute [local go_sem] Oper.semAt_some

/-- Between the rounds: the box with the row of what has been handed. -/
structure ToldSt (w : World) (most : Nat) (cs : Nat → Prop) (pre : List Int) (v : Value) (W : World) : Prop where
  box : Boxed W (w.heap.size + 1) 31 v
  row : W.ownsRow (w.heap.size + 6) 27 1 v pre.length (encW pre)
  cnt : BlkIs W w.heap.size #[.int .i64 (most : Int)] 3
  cb : cs (w.heap.size + 1)
  cr : ∀ k, v.ownBlock = some k → cs k
  own : ∀ k, cs k → k = w.heap.size + 1 ∨ v.ownBlock = some k
  base : Below w.heap.size w W
theorem ToldSt.fr {w : World} {most : Nat} {cs : Nat → Prop} {pre : List Int} {v : Value} {W V : World} (h : ToldSt w most cs pre v W) (hf : Fr (fun k => w.heap.size + 4 + 2 ≤ k ∧ ¬ cs k) W V) : ToldSt w most cs pre v V :=
  ⟨(hf.block _ h.box.lt (fun e => e.2 h.cb)).trans h.box, row_fr h.row hf (fun k hk e => e.2 (h.cr k hk)), (hf.block _ h.cnt.lt (fun e => by have := e.1; omega)).trans h.cnt, h.cb, h.cr, h.own, h.base.trans (hf.below h.base.size fun k hk => by have := hk.1; omega)⟩
theorem ToldSt.putObj {w : World} {most : Nat} {cs : Nat → Prop} {pre : List Int} {v : Value} {W : World} (h : ToldSt w most cs pre v W) {r : Loop} (o' : Obj) (hl : W.heap[w.heap.size + 4 + 1]? = some (.loop r)) : ToldSt w most cs pre v (W.putObj (w.heap.size + 4 + 1) o') :=
  ⟨(World.putObj_heap_other (by omega)).trans h.box, ownsRow_putObj h.row _ hl rfl, (World.putObj_heap_other (by omega)).trans h.cnt, h.cb, h.cr, h.own, h.base.trans (belowK_b (w := w) (Nat.le_refl _) W _ _ o' (by omega) hl rfl rfl)⟩
def toldWorld (p0 : Option Addr) (x : Int) (most : Nat) (w : World) : World := (((w.alloc (.cells #[.int .i64 (most : Int)] 3)).alloc (.cells #[.slice none 0 0] 31)).alloc (.cells #[.pointer p0] 24)).alloc (.cells #[.int .u64 x] 27)
/-- A round's append. -/
theorem ToldSt.step {w : World} {most : Nat} {cs : Nat → Prop} {pre : List Int} {v v' : Value} {W w1 : World} {x : Int} {tmp : Obj} (h : ToldSt w most cs pre v W) (hs : w.heap.size + 6 ≤ W.heap.size) (hcs : ∀ k, cs k → k < W.heap.size)
    (hown : w1.ownsRow (w.heap.size + 6) 27 1 v' (pre.length + 1) (encW pre ++ [.int .u64 x])) (hg : (W.alloc tmp).grownBy w1 v.ownBlock) (hat : v'.ownBlock = v.ownBlock ∨ v'.ownBlock = some (W.heap.size + 1)) :
    Boxed w1 (w.heap.size + 1) 31 v ∧ ∃ cs', KpG cs cs' W (w1.setCell ⟨w.heap.size + 1, 0, none⟩ v') ∧ ToldSt w most cs' (pre ++ [x]) v' (w1.setCell ⟨w.heap.size + 1, 0, none⟩ v') ∧ (∀ k, k < w.heap.size + 6 → k ≠ w.heap.size + 1 → (w1.setCell ⟨w.heap.size + 1, 0, none⟩ v').heap[k]? = W.heap[k]?) := by
  have hrb := row_base h.row
  have hv1 : Boxed w1 (w.heap.size + 1) 31 v := (h.box.alloc tmp).kept hg (h.box.not_row (by decide) h.row)
  have hsz : W.heap.size + 1 ≤ w1.heap.size := by have := hg.size; rw [World.size_alloc] at this; omega
  have hz : (w1.setCell ⟨w.heap.size + 1, 0, none⟩ v').heap.size = w1.heap.size := by simp [World.setCell]
  have hnb : v'.ownBlock ≠ some (w.heap.size + 1) := fun e => by have := row_base hown _ e; omega
  have hblk : ∀ k, k < W.heap.size → k ≠ w.heap.size + 1 → v.ownBlock ≠ some k → (w1.setCell ⟨w.heap.size + 1, 0, none⟩ v').heap[k]? = W.heap[k]? := fun k hk hne hv => by
    have h1 : (w1.setCell ⟨w.heap.size + 1, 0, none⟩ v').heap[k]? = w1.heap[k]? := Below.heap_setCell _ _ _ _ (fun e => hne e)
    have h2 : w1.heap[k]? = (W.alloc tmp).heap[k]? := hg.block k (by rw [World.size_alloc]; omega) (fun e => hv e.symm)
    exact h1.trans (h2.trans (Below.heap_alloc _ _ _ hk))
  have hrow : (w1.setCell ⟨w.heap.size + 1, 0, none⟩ v').ownsRow (w.heap.size + 6) 27 1 v' (pre.length + 1) (encW pre ++ [.int .u64 x]) := row_other hown hnb _ _
  refine ⟨hv1, fun k => k = w.heap.size + 1 ∨ v'.ownBlock = some k, ⟨by omega, fun k o hk ho _ => ?_, fun k hk => ?_⟩, ⟨hv1.set v', ?_, ?_, .inl rfl, fun k hk => .inr hk, fun k hk => hk, ?_⟩, fun k hk hne => hblk k (by omega) hne (fun e => by have := hrb k e; omega)⟩
  · rw [hblk k (lt_of_block ho) (fun e => hk (e ▸ h.cb)) (fun e => hk (h.cr k e))]
    exact ho
  · rcases hk with rfl | hk
    · exact ⟨.inl h.cb, by omega⟩
    · have hlt := row_lt hown k hk
      refine ⟨?_, by omega⟩
      rcases hat with e | e
      · exact .inl (h.cr k (by rw [← e]; exact hk))
      · rw [hk] at e
        injection e with e
        exact .inr (by omega)
  · rw [List.length_append, List.length_singleton, encW_snoc]
    exact hrow
  · exact (hblk _ (by omega) (by omega) (fun e => by have := hrb _ e; omega)).trans h.cnt
  · have hb1 : Below w.heap.size W w1 := ((Below.refl _ W).alloc (by omega) tmp).grown hg (by rw [World.size_alloc]; omega) (fun k e => by have := hrb k e; omega)
    exact h.base.trans (hb1.setCell (p := ⟨w.heap.size + 1, 0, none⟩) (by simp) v')
set_option maxRecDepth 100000 in
set_option maxHeartbeats 4000000 in
theorem told_in (n : Nat) (hn : 5 ≤ n) (p0 : Option Addr) (x : Int) (most : Nat) (hm : most ≤ 1000000000) (ws : List Int) (hwl : ws.length ≤ 262144) (O : Nat → Prop) (w : World) (hO : ∀ k, O k → k < w.heap.size)
    (hseq : SeqGh Fence.wide (n - 1) Tryd.prog 125 #[.pointer (some ⟨w.heap.size + 2, 0, none⟩), .pointer (some ⟨w.heap.size + 3, 0, none⟩)] ((toldWorld p0 x most w).heap.size + 1) ws O (toldWorld p0 x most w)) :
    CallsIn Fence.wide n Tryd.prog 35 #[.pointer p0, .int .u64 x, .int .i64 (most : Int)] w fun e V => ∃ A c, e = .returned (.slice A (ws.take (most + 1)).length c) ∧ V.ownsRow w.heap.size 27 1 (.slice A (ws.take (most + 1)).length c) (ws.take (most + 1)).length (encW (ws.take (most + 1))) ∧ Below w.heap.size w V := by
  have h1 : 1 ≤ n := by omega
  have hF1 : Fence.wide.fn 82 := trivial
  obtain ⟨i0, hi, hz0, hz1, hz2⟩ := info_parts word_info
  have HSQ := Lib.hid hseq
  clear hseq
  refine callsIn_of_wp_marks Tryd.func35 rfl trivial ?_ rfl
  simp only [Tryd.ntmps35, List.size_toArray, List.length_cons, List.length_nil, Nat.reduceAdd, Nat.reduceSub, Array.replicate_succ, Array.replicate_zero, List.push_toArray, List.append_toArray, List.nil_append, List.cons_append]
  have heq := fun (W : World) fn first captured => run_eql_func_nil2 (P := Tryd.prog) W Tryd.underlying110 fn first captured
  gi_wp2_with (gi_at_call 82; refine (callsIn_wide.2 (objs_any p0 x _)).mono ?_; rintro e w2 ⟨rfl, hw2⟩; have hw3 : Hid (w2 = toldWorld p0 x most w) := Lib.hid hw2; clear hw2)
  have hz : (toldWorld p0 x most w).heap.size = w.heap.size + 4 := by simp [toldWorld]
  have B5 : BlkIs (toldWorld p0 x most w) w.heap.size #[.int .i64 (most : Int)] 3 := by
    have h := heap_new w (.cells #[.int .i64 (most : Int)] 3)
    exact ((((below_one _ _).block _ (by simp only [World.size_alloc]; omega)).trans (((below_one _ _).block _ (by simp only [World.size_alloc]; omega)).trans (((below_one _ _).block _ (by simp only [World.size_alloc]; omega)).trans h))))
  have B7 : Boxed (toldWorld p0 x most w) (w.heap.size + 1) 31 (.slice none 0 0) := by
    have h := Boxed.new (w.alloc (.cells #[.int .i64 (most : Int)] 3)) 31 (.slice none 0 0)
    rw [World.size_alloc] at h
    exact (h.alloc _).alloc _
  have HBW : Below w.heap.size w (toldWorld p0 x most w) := below_alloc' (below_alloc' (below_alloc' (below_one w _) _) _) _
  have HST := Lib.hid (show ToldSt w most (fun k => k = w.heap.size + 1) [] (.slice none 0 0) (toldWorld p0 x most w) from ⟨B7, row_nil _ _ _ _, B5, rfl, fun k hk => by simp [Value.ownBlock] at hk, fun k hk => .inl hk, HBW⟩)
  rw [← hw3.out] at hz HST HSQ
  clear heq hw3 B5 B7 HBW
  refine range_gh rfl h1 (gf := 125) (lb := #[.pointer (some ⟨w.heap.size + 2, 0, none⟩), .pointer (some ⟨w.heap.size + 3, 0, none⟩)]) rfl trivial (enters_of Tryd.func125 (by kernel_rfl) rfl) rfl HSQ.out (fun k => k = w.heap.size + 1) (fun k hk => ⟨by omega, fun ho => by have := hO k ho; omega⟩)
    (fun cs pre W => ∃ v, ToldSt w most cs pre v W ∧ pre.length ≤ most)
    (fun cd cs pre W => cd = .exit 0 ∧ ∃ v, ToldSt w most cs pre v W ∧ pre.length = most + 1)
    ?gI ?sI ?sIx ?h0
    (fun y => { tmps := #[.pointer p0, .int .u64 x, .int .i64 (most : Int), undef, undef, .pointer (some ⟨w.heap.size, 0, none⟩), .slice none 0 0, .pointer (some ⟨w.heap.size + 1, 0, none⟩), .func (.func 125) #[] #[.pointer (some ⟨w.heap.size + 2, 0, none⟩), .pointer (some ⟨w.heap.size + 3, 0, none⟩)], .int .u64 y, .pointer p0, .int .u64 x, .func (.func 125) #[] #[.pointer (some ⟨w.heap.size + 2, 0, none⟩), .pointer (some ⟨w.heap.size + 3, 0, none⟩)], .func (.func 125) #[] #[.pointer (some ⟨w.heap.size + 2, 0, none⟩), .pointer (some ⟨w.heap.size + 3, 0, none⟩)], .bool false, .func (.func 125) #[] #[.pointer (some ⟨w.heap.size + 2, 0, none⟩), .pointer (some ⟨w.heap.size + 3, 0, none⟩)], .int .u64 y, undef, undef, undef, undef, undef, undef, undef, undef, undef], defers := [] }) ?assign ?body ?done ?stop
  case gI =>
    rintro cs pre W V ⟨v, h, hl⟩ hf
    rw [hz] at hf
    exact ⟨v, h.fr hf, hl⟩
  case sI =>
    rintro cs pre W r o hl ⟨v, h, hp⟩
    rw [hz] at hl ⊢
    exact ⟨v, h.putObj o hl, hp⟩
  case sIx =>
    rintro cd cs pre W r o hl ⟨hc, v, h, hp⟩
    rw [hz] at hl ⊢
    exact ⟨hc, v, h.putObj o hl, hp⟩
  case h0 => exact ⟨_, HST.out, Nat.zero_le _⟩
  case assign =>
    intro x W K hK
    gi_wp2
    exact hK
  case body =>
    rintro cs pre x W ⟨v, hst, hpl⟩ hcs hpre hsz
    rw [hz] at hsz ⊢
    obtain ⟨Av, cv, rfl⟩ := row_slice hst.row
    have hlen : pre.length + 1 ≤ 262144 := by
      have h1 := hpre.length_le
      simp at h1; omega
    have HST' := Lib.hid hst
    have HCS := Lib.hid hcs
    have hc := hst.box.cell
    have hcn := hst.cnt.cell 0 (v := .int .i64 (most : Int)) rfl
    have hlo : w.heap.size < W.heap.size := hst.cnt.lt
    by_cases hlast : pre.length = most
    · have hgt : decide ((most : Int) < (pre.length : Int) + 1) = true := decide_eq_true (by omega)
      have hgt2 : decide ((most : Int) < ((pre.length + 1 : Nat) : Int)) = true := decide_eq_true (by omega)
      have HL := Lib.hid hlast
      clear hst hcs hlast hpl
      gi_wp2_with (gi_at_builtin; refine wpListIn_append_own_at _ rfl _ _ 31 rfl (w.heap.size + 6) 27 i0 (.int .u64 0) 1 8 Tryd.underlying31 hi hz0 hz1 hz2 rfl (by decide) _ _ _ rfl (HST'.out.row.alloc _) ⟨W.heap.size, 0, none⟩ 1 1 [.int .u64 x] rfl rfl (cell_one_new _ _ _) (by simp [Value.oneCell']) (by unfold maxLen; omega) (by omega) (by rw [World.size_alloc]; omega) ?_; intro v' w1 hown' hgrow hnil' hat; obtain ⟨g', cap', rfl⟩ := ownsRow_succ hown'; have HSP := Lib.hid (HST'.out.step (by omega) HCS.out hown' hgrow (by rw [World.size_alloc] at hat; exact hat)); have hc1 := HSP.out.1.cell; have hf1 := HSP.out.1.frozen; have hc5 := HSP.out.2.choose_spec.2.1.cnt.cell 0 (v := .int .i64 (most : Int)) rfl)
      obtain ⟨_, cs', k1, k2, k3⟩ := HSP.out
      exact ⟨⟨k3 _ (by omega) (by omega), k3 _ (by omega) (by omega)⟩, cs', k1, rfl, _, k2, by rw [List.length_append, List.length_singleton, HL.out]⟩
    · have hgt : decide ((most : Int) < (pre.length : Int) + 1) = false := decide_eq_false (by omega)
      have hgt2 : decide ((most : Int) < ((pre.length + 1 : Nat) : Int)) = false := decide_eq_false (by omega)
      have HL := Lib.hid (show pre.length + 1 ≤ most by omega)
      clear hst hcs hlast hpl
      gi_wp2_with (gi_at_builtin; refine wpListIn_append_own_at _ rfl _ _ 31 rfl (w.heap.size + 6) 27 i0 (.int .u64 0) 1 8 Tryd.underlying31 hi hz0 hz1 hz2 rfl (by decide) _ _ _ rfl (HST'.out.row.alloc _) ⟨W.heap.size, 0, none⟩ 1 1 [.int .u64 x] rfl rfl (cell_one_new _ _ _) (by simp [Value.oneCell']) (by unfold maxLen; omega) (by omega) (by rw [World.size_alloc]; omega) ?_; intro v' w1 hown' hgrow hnil' hat; obtain ⟨g', cap', rfl⟩ := ownsRow_succ hown'; have HSP := Lib.hid (HST'.out.step (by omega) HCS.out hown' hgrow (by rw [World.size_alloc] at hat; exact hat)); have hc1 := HSP.out.1.cell; have hf1 := HSP.out.1.frozen; have hc5 := HSP.out.2.choose_spec.2.1.cnt.cell 0 (v := .int .i64 (most : Int)) rfl)
      obtain ⟨_, cs', k1, k2, k3⟩ := HSP.out
      exact ⟨⟨k3 _ (by omega) (by omega), k3 _ (by omega) (by omega)⟩, cs', k1, _, k2, by rw [List.length_append, List.length_singleton]; exact HL.out⟩
  case done =>
    rintro cs W ⟨v, h, hl⟩ hK
    have e : ws.take (most + 1) = ws := List.take_of_length_le (by omega)
    have HE := Lib.hid e
    obtain ⟨Av, cv, rfl⟩ := row_slice h.row
    have hc := h.box.cell
    have HH := Lib.hid h
    rw [hz] at hK
    clear h e
    rw [hz]
    gi_wp2
    refine ⟨by simp, .inl ⟨_, _, rfl, run_takeDeferred hK, ?_⟩⟩
    refine ⟨_, results_tmp rfl _ _ _, ?_⟩
    rw [HE.out]
    exact ⟨Av, cv, rfl, ownsRow_putObj (row_mono HH.out.row (by omega)) _ hK rfl, HH.out.base.trans (belowK_b (w := w) (Nat.le_refl _) W _ _ _ (by omega) hK rfl rfl)⟩
  case stop =>
    rintro cd cs pre W hpre ⟨rfl, v, h, hl⟩ hK
    have e : ws.take (most + 1) = pre := by rw [← hl]; exact (List.prefix_iff_eq_take.1 hpre).symm
    have HE := Lib.hid e
    obtain ⟨Av, cv, rfl⟩ := row_slice h.row
    have hc := h.box.cell
    have HH := Lib.hid h
    rw [hz] at hK
    clear h e hl hpre
    rw [hz]
    gi_wp2
    refine ⟨by simp, .inl ⟨_, _, rfl, run_takeDeferred hK, ?_⟩⟩
    refine ⟨_, results_tmp rfl _ _ _, ?_⟩
    rw [HE.out]
    exact ⟨Av, cv, rfl, ownsRow_putObj (row_mono HH.out.row (by omega)) _ hK rfl, HH.out.base.trans (belowK_b (w := w) (Nat.le_refl _) W _ _ _ (by omega) hK rfl rfl)⟩
theorem objsOf_len {L : List ObjA} (hw : WfA L) (x : Int) (h0 : 0 ≤ x ∧ x < 18446744073709551616) : (objsOf L x).length ≤ L.length := by
  unfold objsOf
  split
  · rename_i hf
    exact (vis_ok hw (m := []) ⟨List.nodup_nil, fun x hx => (by cases hx)⟩ ⟨hf, h0.1, h0.2⟩).len
  · simp
theorem told_any (w : World) (O : Nat → Prop) (ba room : Nat) (L : List ObjA) (x : Int) (most : Nat) (hA : ArAt w O ba room L) (h0 : 0 ≤ x ∧ x < 18446744073709551616) (hm : most ≤ 1000000000) :
    Calls Tryd.prog 35 #[.pointer (some ⟨ba, 0, none⟩), .int .u64 x, .int .i64 (most : Int)] w fun e V => ∃ A c, e = .returned (.slice A ((objsOf L x).take (most + 1)).length c) ∧ V.ownsRow w.heap.size 27 1 (.slice A ((objsOf L x).take (most + 1)).length c) ((objsOf L x).take (most + 1)).length (encW ((objsOf L x).take (most + 1))) ∧ Below w.heap.size w V := by
  have hB : Below w.heap.size w (toldWorld (some ⟨ba, 0, none⟩) x most w) := below_alloc' (below_alloc' (below_alloc' (below_one w _) _) _) _
  have hlims := hA.lims
  have hll := hA.wf.len
  have hol := objsOf_len hA.wf x h0
  have b3 : Boxed (toldWorld (some ⟨ba, 0, none⟩) x most w) (w.heap.size + 3) 27 (.int .u64 x) := by
    have h := Boxed.new (((w.alloc (.cells #[.int .i64 (most : Int)] 3)).alloc (.cells #[.slice none 0 0] 31)).alloc (.cells #[.pointer (some ⟨ba, 0, none⟩)] 24)) 27 (.int .u64 x)
    rw [World.size_alloc, World.size_alloc, World.size_alloc] at h
    exact h
  have b2 : Boxed (toldWorld (some ⟨ba, 0, none⟩) x most w) (w.heap.size + 2) 24 (.pointer (some ⟨ba, 0, none⟩)) := by
    have h := Boxed.new ((w.alloc (.cells #[.int .i64 (most : Int)] 3)).alloc (.cells #[.slice none 0 0] 31)) 24 (.pointer (some ⟨ba, 0, none⟩))
    rw [World.size_alloc, World.size_alloc] at h
    exact h.alloc _
  exact callsIn_wide.1 (told_in 6 (by omega) _ x most hm (objsOf L x) (by omega) O w (fun k hk => (hA.lim k hk).2) (objs1_gh 5 (by omega) _ _ _ _ O ba room L x (hA.below hB) h0.1 h0.2 b2.cell b3.cell))
theorem told_nil (w : World) (x : Int) (most : Nat) (hm : most ≤ 1000000000) :
    Calls Tryd.prog 35 #[.pointer none, .int .u64 x, .int .i64 (most : Int)] w fun e V => ∃ A c, e = .returned (.slice A 0 c) ∧ Below w.heap.size w V := by
  have b2 : Boxed (toldWorld none x most w) (w.heap.size + 2) 24 (.pointer none) := by
    have h := Boxed.new ((w.alloc (.cells #[.int .i64 (most : Int)] 3)).alloc (.cells #[.slice none 0 0] 31)) 24 (.pointer none)
    rw [World.size_alloc, World.size_alloc] at h
    exact h.alloc _
  refine (callsIn_wide.1 (told_in 6 (by omega) none x most hm [] (by simp) (fun _ => False) w (fun k hk => hk.elim) (objs1_nil 5 _ _ _ _ _ b2.cell))).mono ?_
  rintro e V ⟨A, c, rfl, _, hB⟩
  exact ⟨A, c, rfl, hB⟩
end Go.Proofs.YthgnihckeckaiaaDoor.Tm
