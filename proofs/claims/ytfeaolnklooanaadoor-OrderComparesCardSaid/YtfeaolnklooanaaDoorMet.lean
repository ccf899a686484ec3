/- What an iterator of Parts tells, gathered. -/
import Derived.Test.YtfeaolnklooanaaDoorPIter
namespace Go.Proofs.YtfeaolnklooanaaDoor.Tm
open Go.RowKit Go.Shelf
set_option linter.unusedVariables false
set_option linter.unusedSimpArgs false
attribute [local go_sem] Oper.semAt_some

theorem szOf_snoc {pre : List Yld} {x : Yld} (h : pre ≠ []) : szOf (pre ++ [x]) = szOf pre := by
  cases pre with
  | nil => exact absurd rfl h
  | cons y l => rfl
/-- A box that holds the row of what has been handed. -/
def Gath (W : World) (lo B : Nat) (xs : List Yld) : Prop :=
  ∃ v, Boxed W B 29 v ∧ W.ownsRow (szOf xs) 22 1 v xs.length (xs.map Yld.val) ∧ (xs = [] → v = .slice none 0 0) ∧ (xs ≠ [] → lo + 2 ≤ szOf xs ∧ szOf xs ≤ W.heap.size)
theorem Gath.putObj {W : World} {lo B lp : Nat} {xs : List Yld} {o : Obj} (h : Gath W lo B xs) (o' : Obj) (hl : W.heap[lp]? = some o) (ho : o.isCells = false) (hne : B ≠ lp) : Gath (W.putObj lp o') lo B xs := by
  obtain ⟨v, h1, h2, h3, h4⟩ := h
  exact ⟨v, (World.putObj_heap_other hne).trans h1, ownsRow_putObj h2 _ hl ho, h3, fun k => ⟨(h4 k).1, by simpa [World.putObj] using (h4 k).2⟩⟩
theorem Gath.below {W V : World} {lo B : Nat} {xs : List Yld} (h : Gath W lo B xs) (hB : Below W.heap.size W V) : Gath V lo B xs := by
  obtain ⟨v, h1, h2, h3, h4⟩ := h
  exact ⟨v, (hB.block _ h1.lt).trans h1, row_below h2 hB, h3, fun k => ⟨(h4 k).1, Nat.le_trans (h4 k).2 hB.size⟩⟩
theorem Gath.row {W : World} {lo B : Nat} {pre : List Yld} {ls : List (List CellD)} {x : Yld} (h : Gath W lo B pre) (hG : GY lo ls pre x W) :
    ∃ v, Boxed W B 29 v ∧ W.ownsRow (szOf (pre ++ [x])) 22 1 v pre.length (pre.map Yld.val) ∧ lo + 2 ≤ szOf (pre ++ [x]) ∧ szOf (pre ++ [x]) ≤ W.heap.size := by
  obtain ⟨v, h1, h2, h3, h4⟩ := h
  by_cases e : pre = []
  · subst e
    obtain rfl := h3 rfl
    exact ⟨_, h1, row_nil _ _ _ _, hG.sz1, hG.sz2⟩
  · rw [szOf_snoc e]
    exact ⟨v, h1, h2, h4 e⟩
theorem gath_step {W w1 : World} {lo B s : Nat} {pre : List Yld} {x : Yld} {v v' : Value} {tmp : Obj} {Bx : Nat → Prop} (hs : szOf (pre ++ [x]) = s) (hs1 : lo + 2 ≤ s) (hs2 : s ≤ W.heap.size) (hB : B < lo) (hbx : Bx B)
    (hv : Boxed W B 29 v) (hrow : W.ownsRow s 22 1 v pre.length (pre.map Yld.val)) (hown : w1.ownsRow s 22 1 v' (pre.length + 1) (pre.map Yld.val ++ [x.val])) (hg : (W.alloc tmp).grownBy w1 v.ownBlock) :
    Boxed w1 B 29 v ∧ Boxed (w1.setCell ⟨B, 0, none⟩ v') B 29 v' ∧ Gath (w1.setCell ⟨B, 0, none⟩ v') lo B (pre ++ [x]) ∧ KpY Bx (pre ++ [x]) W (w1.setCell ⟨B, 0, none⟩ v') ∧ (∀ k, k < s → k ≠ B → (w1.setCell ⟨B, 0, none⟩ v').heap[k]? = W.heap[k]?) ∧ (∀ n₀, n₀ ≤ B → Below n₀ W (w1.setCell ⟨B, 0, none⟩ v')) := by
  have hv1 : Boxed w1 B 29 v := (hv.alloc tmp).kept hg (hv.not_row (by decide) hrow)
  have hsz : W.heap.size ≤ w1.heap.size := by have := hg.size; rw [World.size_alloc] at this; omega
  have hz : (w1.setCell ⟨B, 0, none⟩ v').heap.size = w1.heap.size := by simp [World.setCell]
  have hrow4 : (w1.setCell ⟨B, 0, none⟩ v').ownsRow s 22 1 v' (pre.length + 1) (pre.map Yld.val ++ [x.val]) :=
    World.ownsRow.kept hown (grownBy_setCell' w1 B v') (by
      rcases hq : v'.ownBlock with _ | k
      · exact .inl rfl
      · right; intro e; injection e with e; subst e; have := row_base hown _ hq; omega)
  have hblk : ∀ k, k < s → k ≠ B → (w1.setCell ⟨B, 0, none⟩ v').heap[k]? = W.heap[k]? := fun k hk hne => by
    have h1 : (w1.setCell ⟨B, 0, none⟩ v').heap[k]? = w1.heap[k]? := (grownBy_setCell' w1 B v').block k (by omega) (fun e => hne (by injection e))
    have h2 : w1.heap[k]? = (W.alloc tmp).heap[k]? := hg.block k (by rw [World.size_alloc]; omega) (fun e => by have := row_base hrow k e.symm; omega)
    exact h1.trans (h2.trans (Below.heap_alloc _ _ _ (by omega)))
  refine ⟨hv1, hv1.set v', ⟨v', hv1.set v', ?_, fun e => by simp at e, fun _ => ⟨by omega, by omega⟩⟩, ⟨by omega, fun k o hk hb ho hc => ?_, fun base A c l hr => ?_⟩, hblk, fun n₀ hn => ?_⟩
  · rw [hs, List.length_append, List.map_append]; exact hrow4
  · exact (hblk k (by omega) (fun e => hb (e ▸ hbx))).trans ho
  · have r1 := hr.alloc tmp
    have r2 : RowIs w1 base A c l := World.ownsRow.kept r1 hg (rows_ne r1 (hrow.alloc tmp) (by decide))
    exact World.ownsRow.kept r2 (grownBy_setCell' w1 B v') (by
      have := hv1.not_row (by decide) r2
      rcases hq : (Value.slice A l.length c).ownBlock with _ | k
      · exact .inl rfl
      · right; rw [hq] at this; exact fun e => this e.symm)
  · have b1 : Below n₀ W w1 := ((Below.refl n₀ W).alloc (by omega) tmp).grown hg (by rw [World.size_alloc]; omega) (fun k e => by have := row_base hrow k e; omega)
    exact b1.setCell (p := ⟨B, 0, none⟩) hn v'
/-- What met hands back. -/
def MetAt (lo : Nat) (ls : List (List CellD)) (most : Int) (v : Value) (ys : List Yld) (V : World) : Prop :=
  V.ownsRow lo 22 1 v ys.length (ys.map Yld.val) ∧ YRows lo ys V ∧ YApart ys ∧ ((ys.map Yld.l = ls ∧ ((ys.length : Int) < most ∨ most ≤ 0)) ∨ (ys.map Yld.l <+: ls ∧ ((ys.length : Int) = most ∧ 0 < ys.length)))
theorem row_box {W : World} {B : Nat} {t e : TypeId} {v u r : Value} {base size n : Nat} {xs : List Value} (hb : Boxed W B t v) (hte : t ≠ e) (h : W.ownsRow base e size r n xs) : (W.setCell ⟨B, 0, none⟩ u).ownsRow base e size r n xs :=
  World.ownsRow.kept h (grownBy_setCell' W B u) (by
    have := hb.not_row hte h
    rcases hq : r.ownBlock with _ | k
    · exact .inl rfl
    · right; rw [hq] at this; exact fun e => this e.symm)
/-- met's other boxes: the number, the results. -/
def MBox (W : World) (s : Nat) (most : Int) : Prop := Boxed W s 3 (.int .i64 most) ∧ Boxed W (s + 1) 29 (.slice none 0 0) ∧ Boxed W (s + 1 + 1) 4 (.bool false)
theorem MBox.below {W V : World} {s : Nat} {most : Int} (h : MBox W s most) (hB : Below W.heap.size W V) : MBox V s most := ⟨(hB.block _ h.1.lt).trans h.1, (hB.block _ h.2.1.lt).trans h.2.1, (hB.block _ h.2.2.lt).trans h.2.2⟩
theorem MBox.putObj {W : World} {s lp : Nat} {most : Int} (h : MBox W s most) (o : Obj) (hne : s + 1 + 1 < lp) : MBox (W.putObj lp o) s most :=
  ⟨(World.putObj_heap_other (by omega)).trans h.1, (World.putObj_heap_other (by omega)).trans h.2.1, (World.putObj_heap_other (by omega)).trans h.2.2⟩
theorem kpY_loop {Bx : Nat → Prop} {xs : List Yld} {W V : World} {lp : Nat} {r r2 : Loop} (h : KpY Bx xs (W.putObj lp (.loop r2)) V) (hl : W.heap[lp]? = some (.loop r)) (hl2 : V.heap[lp]? = some (.loop r2)) (o' : Obj) : KpY Bx xs W (V.putObj lp o') := by
  refine ⟨by simpa [World.putObj] using h.size, fun k o hk hb ho hc => ?_, fun base A c l hr => ownsRow_putObj (h.row base A c l (ownsRow_putObj hr _ hl rfl)) o' hl2 rfl⟩
  have hne : k ≠ lp := fun e => by
    subst e
    rw [hl] at ho
    injection ho with ho
    subst ho
    cases hc
  exact (World.putObj_heap_other hne).trans (h.blk k o hk hb ((World.putObj_heap_other hne).trans ho) hc)
theorem run_equalIn_func_nil2 {P : Program} (w : World) (d : Nat) {t : TypeId} {x y : Array TypeId} {z : Bool} (h : P.underlying t = some (.func x y z)) (fn : Fn) (first captured : Array Value) :
    (Op.equalIn (d + 1) t (.func fn first captured) .nilFunc).run P w = .ok false w := by
  simp [Op.equalIn, run_underlying h]
theorem run_eql_func_nil2 {P : Program} (w : World) {t : TypeId} {x y : Array TypeId} {z : Bool} (h : P.underlying t = some (.func x y z)) (fn : Fn) (first captured : Array Value) :
    (binOp .eql t (.func fn first captured) .nilFunc).run P w = .ok (.bool false) w := by
  simp only [binOp]
  simp [Op.equal, Op.maxDepth, run_equalIn_func_nil2 w 9999 h]
set_option maxRecDepth 100000 in
set_option maxHeartbeats 4000000 in
theorem met_in (n : Nat) (hn : 5 ≤ n) (t : List CellD) (most : Int) (A : Option Addr) (c : Nat) (w : World) (hr : Reads w A t) (hf : Fine t) (hT : Tabs w) :
    CallsIn Fence.wide n Tryd.prog 13 #[.slice A t.length c, .int .i64 most] w fun e V => ∃ v ys, e = .returned (.tuple #[v, .bool true]) ∧ MetAt w.heap.size (partsR t) most v ys V ∧ Below w.heap.size w V := by
  have h1 : 1 ≤ n := by omega
  have hF1 : Fence.wide.fn 38 := trivial
  obtain ⟨i0, hi, hz0, hz1, hz2'⟩ := info_parts sl_info
  have HR := Lib.hid hr
  have HF := Lib.hid hf
  have HT := Lib.hid hT
  clear hr hf hT
  refine callsIn_of_wp_marks Tryd.func13 rfl trivial ?_ rfl
  simp only [Tryd.ntmps13, List.size_toArray, List.length_cons, List.length_nil, Nat.reduceAdd, Nat.reduceSub, Array.replicate_succ, Array.replicate_zero, List.push_toArray, List.append_toArray, List.nil_append, List.cons_append]
  have heq := fun (W : World) fn first captured => run_eql_func_nil2 (P := Tryd.prog) W Tryd.underlying60 fn first captured
  have B0 := Lib.hid (Boxed.new w 3 (.int .i64 most))
  have hBa := below_alloc' (below_alloc' (below_alloc' (below_one w (.cells #[.int .i64 most] 3)) (.cells #[.slice none 0 0] 29)) (.cells #[.bool false] 4)) (.cells #[.slice none 0 0] 29)
  have HBA := Lib.hid hBa
  clear hBa
  gi_wp2_with (gi_at_call 38; refine (callsIn_wide.2 (oparts_any t A c _ (HR.out.below HBA.out) HF.out)).mono ?_; rintro e w2 ⟨b0', A2, c2, rfl, hbox, hR2, hc2, hb0, hA2, hb2⟩)
  have hz4 : ((((w.alloc (.cells #[.int .i64 most] 3)).alloc (.cells #[.slice none 0 0] 29)).alloc (.cells #[.bool false] 4)).alloc (.cells #[.slice none 0 0] 29)).heap.size = w.heap.size + 4 := by simp
  have B1 := Boxed.new (w.alloc (.cells #[.int .i64 most] 3)) 29 (.slice none 0 0)
  have B2 := Boxed.new ((w.alloc (.cells #[.int .i64 most] 3)).alloc (.cells #[.slice none 0 0] 29)) 4 (.bool false)
  have B3 := Boxed.new (((w.alloc (.cells #[.int .i64 most] 3)).alloc (.cells #[.slice none 0 0] 29)).alloc (.cells #[.bool false] 4)) 29 (.slice none 0 0)
  rw [World.size_alloc] at B1
  rw [World.size_alloc, World.size_alloc] at B2
  rw [World.size_alloc, World.size_alloc, World.size_alloc] at B3
  have b0 : Boxed w2 w.heap.size 3 (.int .i64 most) := by
    have := ((B0.out.alloc (.cells #[.slice none 0 0] 29)).alloc (.cells #[.bool false] 4)).alloc (.cells #[.slice none 0 0] 29)
    exact (hb2.block _ this.lt).trans this
  have b1 : Boxed w2 (w.heap.size + 1) 29 (.slice none 0 0) := by
    have := (B1.alloc (.cells #[.bool false] 4)).alloc (.cells #[.slice none 0 0] 29)
    exact (hb2.block _ this.lt).trans this
  have b2 : Boxed w2 (w.heap.size + 1 + 1) 4 (.bool false) := by
    have := B2.alloc (.cells #[.slice none 0 0] 29)
    exact (hb2.block _ this.lt).trans this
  have b3 : Boxed w2 (w.heap.size + 1 + 1 + 1) 29 (.slice none 0 0) := (hb2.block _ B3.lt).trans B3
  have hBw := below_then HBA.out hb2
  have hz2 := hb2.size
  rw [hz4] at hz2 hb0 hA2
  have hseq := parts1_mem (n - 1) (by omega) t b0' A2 c2 (w2.heap.size + 1) (fun k => k = w.heap.size + 1 + 1 + 1) w2 hbox hR2 HF.out hc2 (Utf8Tabs_below HT.out hBw) (fun k e => by omega) (fun b o e => by have := hA2 b o e; omega)
  have hlp : ∀ (W : World) (r : Loop), W.heap[w2.heap.size + 1]? = some (.loop r) → (Obj.loop r).isCells = false := fun _ _ _ => rfl
  have HBW := Lib.hid hBw
  have HBO := Lib.hid (⟨b0, b1, b2, b3⟩ : Boxed w2 w.heap.size 3 (.int .i64 most) ∧ Boxed w2 (w.heap.size + 1) 29 (.slice none 0 0) ∧ Boxed w2 (w.heap.size + 1 + 1) 4 (.bool false) ∧ Boxed w2 (w.heap.size + 1 + 1 + 1) 29 (.slice none 0 0))
  clear heq B0 B1 B2 B3 HBA hb2 hbox hR2 hBw b0 b1 b2 b3
  refine range_mem rfl h1 (gf := 53) (lb := #[.pointer (some ⟨b0', 0, none⟩)]) rfl trivial (enters_of Tryd.func53 (by kernel_rfl) rfl) (fun _ => rfl) hseq
    (fun pre W => Gath W w2.heap.size (w.heap.size + 1 + 1 + 1) pre ∧ MBox W w.heap.size most ∧ Below w.heap.size w W ∧ ((pre.length : Int) < most ∨ most ≤ 0))
    (fun cd pre W => cd = .exit 0 ∧ Gath W w2.heap.size (w.heap.size + 1 + 1 + 1) pre ∧ MBox W w.heap.size most ∧ Below w.heap.size w W ∧ ((pre.length : Int) = most ∧ 0 < pre.length))
    ?gI ?sI ?sIx ?sG ?sS ?sSp ?hK ?h0
    (fun x => { tmps := #[.slice A t.length c, .int .i64 most, undef, .pointer (some ⟨w.heap.size, 0, none⟩), .pointer (some ⟨w.heap.size + 1, 0, none⟩), .pointer (some ⟨w.heap.size + 1 + 1, 0, none⟩), .pointer (some ⟨w.heap.size + 1 + 1 + 1, 0, none⟩),
        .func (.func 53) #[] #[.pointer (some ⟨b0', 0, none⟩)], .int .i64 x.i, .slice x.A x.l.length x.c, .slice A t.length c, .func (.func 53) #[] #[.pointer (some ⟨b0', 0, none⟩)], .func (.func 53) #[] #[.pointer (some ⟨b0', 0, none⟩)], .bool false,
        .func (.func 53) #[] #[.pointer (some ⟨b0', 0, none⟩)], .int .i64 x.i, .slice x.A x.l.length x.c, undef, undef, undef, undef, undef, undef, undef, undef, undef, undef, undef, undef, undef, undef], defers := [] }) ?assign ?body ?done ?stop
  case gI => exact fun pre W V h hB => ⟨h.1.below hB, h.2.1.below hB, below_then h.2.2.1 hB, h.2.2.2⟩
  case sI => exact fun pre W r o hl h => ⟨h.1.putObj o hl rfl (by omega), h.2.1.putObj o (by omega), h.2.2.1.trans (belowK_b (w := w) (Nat.le_refl _) W _ _ o (by omega) hl rfl rfl), h.2.2.2⟩
  case sIx => exact fun cd pre W r o hl h => ⟨h.1, h.2.1.putObj o hl rfl (by omega), h.2.2.1.putObj o (by omega), h.2.2.2.1.trans (belowK_b (w := w) (Nat.le_refl _) W _ _ o (by omega) hl rfl rfl), h.2.2.2.2⟩
  case sG => exact fun pre x W r o hl h => ⟨h.ix, h.sz1, by simpa [World.putObj] using h.sz2, h.same, h.ls, fun y hy => ownsRow_putObj (h.rows y hy) o hl rfl, h.apart⟩
  case sS => exact fun xs W r o hl h => ⟨h.1, fun y hy => ownsRow_putObj (h.2.1 y hy) o hl rfl, h.2.2⟩
  case sSp => exact fun xs W r o hl h => ⟨h.1, fun y hy => ownsRow_putObj (h.2.1 y hy) o hl rfl, h.2.2⟩
  case hK => exact fun xs W V r r2 o' hl hl2 h => kpY_loop h hl hl2 o'
  case h0 => exact ⟨⟨_, HBO.out.2.2.2, row_nil _ _ _ _, fun _ => rfl, fun e => absurd rfl e⟩, ⟨HBO.out.1, HBO.out.2.1, HBO.out.2.2.1⟩, HBW.out, by simp; omega⟩
  case assign =>
    intro x W K hK
    simp only [encY]
    gi_wp2
    exact hK
  case body =>
    rintro pre x W ⟨hga, hmb, hB, hmost⟩ hG
    obtain ⟨v, hv, hrow, hs1, hs2⟩ := hga.row hG
    obtain ⟨Av, cv, rfl⟩ := row_slice hrow
    have hlen : pre.length + 1 ≤ 255 := by
      have h1 := hG.ls.length_le
      have h2 : (partsR t).length ≤ 255 := by unfold partsR; split; simp; exact partsE_len t
      simp at h1; omega
    have hxi := hG.ix
    obtain ⟨s, hs⟩ : ∃ s, szOf (pre ++ [x]) = s := ⟨_, rfl⟩
    rw [hs] at hrow hs1 hs2
    have HG := Lib.hid hG
    have HSZ := Lib.hid hs
    have HMO := Lib.hid hmost
    have HBw := Lib.hid hB
    have HMB := Lib.hid hmb
    have HV := Lib.hid hv
    have HROW := Lib.hid hrow
    have hc := hv.cell
    have hcm := hmb.1.cell
    have hnn : (((pre.length : Nat) : Int) != ((pre.length : Nat) : Int)) = false := by simp
    rw [hxi]
    clear hga hG hs hmost hB hmb hv hrow hxi
    gi_wp2_with (gi_at_builtin; refine wpListIn_append_own _ rfl _ _ 29 rfl s 22 i0 (.slice none 0 0) 1 24 Tryd.underlying29 hi hz0 hz1 hz2' rfl (by decide) _ _ _ rfl (HROW.out.alloc _) ⟨W.heap.size, 0, none⟩ 1 1 [x.val] rfl rfl (cell_one_new _ _ _) (by simp [Value.oneCell', Yld.val]) (by unfold maxLen; omega) (by omega) (by simp; omega) ?_; intro v' w1 hown' hgrow _; obtain ⟨g', cap', rfl⟩ := ownsRow_succ hown'; have HST := Lib.hid (gath_step (Bx := fun k => k = w.heap.size + 1 + 1 + 1) HSZ.out hs1 hs2 (by omega) rfl HV.out HROW.out hown' hgrow); have HM1 := Lib.hid ((HMB.out.1.alloc _).kept hgrow (HMB.out.1.not_row (by decide) HROW.out)); have hc1 := HST.out.1.cell; have hf1 := HST.out.1.frozen; have hcm1 := HM1.out.cell)
    · have hq : (pre.length : Int) + 1 = most := eq_of_beq (by assumption)
      obtain ⟨_, _, k3, k4, k5, k6⟩ := HST.out
      exact ⟨⟨k5 _ (by omega) (by omega), k5 _ (by omega) (by omega)⟩, k4, rfl, k3, ⟨(k5 _ (by omega) (by omega)).trans HMB.out.1, (k5 _ (by omega) (by omega)).trans HMB.out.2.1, (k5 _ (by omega) (by omega)).trans HMB.out.2.2⟩, HBw.out.trans (k6 _ (by omega)), by simp; omega, by simp⟩
    · have hq : ¬ (pre.length : Int) + 1 = most := beq_eq_false_iff_ne.1 (by assumption)
      obtain ⟨_, _, k3, k4, k5, k6⟩ := HST.out
      have hmo := HMO.out
      exact ⟨⟨k5 _ (by omega) (by omega), k5 _ (by omega) (by omega)⟩, k4, k3, ⟨(k5 _ (by omega) (by omega)).trans HMB.out.1, (k5 _ (by omega) (by omega)).trans HMB.out.2.1, (k5 _ (by omega) (by omega)).trans HMB.out.2.2⟩, HBw.out.trans (k6 _ (by omega)), by simp; omega⟩
  case done =>
    rintro xs W hS ⟨hga, hmb, hB, hmost⟩ hK
    obtain ⟨v, hv, hrow, hnil, hne⟩ := hga
    obtain ⟨Av, cv, rfl⟩ := row_slice hrow
    have hrow2 : W.ownsRow w.heap.size 22 1 (.slice Av xs.length cv) xs.length (xs.map Yld.val) := by
      by_cases e : xs = []
      · subst e
        rw [hnil rfl]; exact row_nil _ _ _ _
      · exact row_mono hrow (by have := (hne e).1; omega)
    have hc := hv.cell
    have hc1 := hmb.2.1.cell
    have hf1 := hmb.2.1.frozen
    have b2 : Boxed (W.setCell ⟨w.heap.size + 1, 0, none⟩ (.slice Av xs.length cv)) (w.heap.size + 1 + 1) 4 (.bool false) := hmb.2.2.other (by omega) _
    have hc2 := b2.cell
    have hf2 := b2.frozen
    have b1 : Boxed ((W.setCell ⟨w.heap.size + 1, 0, none⟩ (.slice Av xs.length cv)).setCell ⟨w.heap.size + 1 + 1, 0, none⟩ (.bool true)) (w.heap.size + 1) 29 (.slice Av xs.length cv) := (hmb.2.1.set _).other (by omega) _
    have b2' := b2.set (.bool true)
    have hK2 : ((W.setCell ⟨w.heap.size + 1, 0, none⟩ (.slice Av xs.length cv)).setCell ⟨w.heap.size + 1 + 1, 0, none⟩ (.bool true)).heap[w2.heap.size]? = some (.deferred (some [])) := by
      have hlt := (Array.getElem?_eq_some_iff.1 hK).1
      have e1 := (grownBy_setCell' W (w.heap.size + 1) (.slice Av xs.length cv)).block w2.heap.size hlt (fun e => by injection e; omega)
      have e2 := (grownBy_setCell' (W.setCell ⟨w.heap.size + 1, 0, none⟩ (.slice Av xs.length cv)) (w.heap.size + 1 + 1) (.bool true)).block w2.heap.size (by simpa [World.setCell] using hlt) (fun e => by injection e; omega)
      exact e2.trans (e1.trans hK)
    have R3 := Lib.hid (row_box (u := .bool true) b2 (by decide) (row_box (u := .slice Av xs.length cv) hmb.2.1 (by decide) hrow2))
    have Y3 := Lib.hid (show YRows w.heap.size xs ((W.setCell ⟨w.heap.size + 1, 0, none⟩ (.slice Av xs.length cv)).setCell ⟨w.heap.size + 1 + 1, 0, none⟩ (.bool true)) from fun y hy => row_box b2 (by decide) (row_box hmb.2.1 (by decide) (row_mono (hS.2.1 y hy) (show w.heap.size ≤ w2.heap.size by omega))))
    have BB := Lib.hid ((hB.setCell (p := ⟨w.heap.size + 1, 0, none⟩) (by show w.heap.size ≤ w.heap.size + 1; omega) (.slice Av xs.length cv)).setCell (p := ⟨w.heap.size + 1 + 1, 0, none⟩) (by show w.heap.size ≤ w.heap.size + 1 + 1; omega) (.bool true))
    have P1 := Lib.hid (show Boxed (((W.setCell ⟨w.heap.size + 1, 0, none⟩ (.slice Av xs.length cv)).setCell ⟨w.heap.size + 1 + 1, 0, none⟩ (.bool true)).putObj w2.heap.size (.deferred none)) (w.heap.size + 1) 29 (.slice Av xs.length cv) from (World.putObj_heap_other (by omega)).trans b1)
    have P2 := Lib.hid (show Boxed (((W.setCell ⟨w.heap.size + 1, 0, none⟩ (.slice Av xs.length cv)).setCell ⟨w.heap.size + 1 + 1, 0, none⟩ (.bool true)).putObj w2.heap.size (.deferred none)) (w.heap.size + 1 + 1) 4 (.bool true) from (World.putObj_heap_other (by omega)).trans b2')
    have HK := Lib.hid hK2
    clear b2 b1 b2' hK2 hrow hrow2
    gi_wp2
    refine ⟨by simp, .inl ⟨_, _, rfl, run_takeDeferred HK.out, ?_⟩⟩
    refine ⟨.tuple #[.slice Av xs.length cv, .bool true], by simp [results, Tryd.results13, go_sem, P1.out.cell, P2.out.cell], ?_⟩
    exact ⟨_, xs, rfl, ⟨ownsRow_putObj R3.out _ HK.out rfl, fun y hy => ownsRow_putObj (Y3.out y hy) _ HK.out rfl, hS.2.2, .inl ⟨hS.1, hmost⟩⟩, BB.out.trans (belowK_b (w := w) (Nat.le_refl _) _ _ _ _ (by omega) HK.out rfl rfl)⟩
  case stop =>
    rintro cd xs W hS ⟨rfl, hga, hmb, hB, hmost⟩ hK
    obtain ⟨v, hv, hrow, hnil, hne⟩ := hga
    obtain ⟨Av, cv, rfl⟩ := row_slice hrow
    have hrow2 : W.ownsRow w.heap.size 22 1 (.slice Av xs.length cv) xs.length (xs.map Yld.val) := by
      by_cases e : xs = []
      · subst e
        rw [hnil rfl]; exact row_nil _ _ _ _
      · exact row_mono hrow (by have := (hne e).1; omega)
    have hc := hv.cell
    have hc1 := hmb.2.1.cell
    have hf1 := hmb.2.1.frozen
    have b2 : Boxed (W.setCell ⟨w.heap.size + 1, 0, none⟩ (.slice Av xs.length cv)) (w.heap.size + 1 + 1) 4 (.bool false) := hmb.2.2.other (by omega) _
    have hc2 := b2.cell
    have hf2 := b2.frozen
    have b1 : Boxed ((W.setCell ⟨w.heap.size + 1, 0, none⟩ (.slice Av xs.length cv)).setCell ⟨w.heap.size + 1 + 1, 0, none⟩ (.bool true)) (w.heap.size + 1) 29 (.slice Av xs.length cv) := (hmb.2.1.set _).other (by omega) _
    have b2' := b2.set (.bool true)
    have hK2 : ((W.setCell ⟨w.heap.size + 1, 0, none⟩ (.slice Av xs.length cv)).setCell ⟨w.heap.size + 1 + 1, 0, none⟩ (.bool true)).heap[w2.heap.size]? = some (.deferred (some [])) := by
      have hlt := (Array.getElem?_eq_some_iff.1 hK).1
      have e1 := (grownBy_setCell' W (w.heap.size + 1) (.slice Av xs.length cv)).block w2.heap.size hlt (fun e => by injection e; omega)
      have e2 := (grownBy_setCell' (W.setCell ⟨w.heap.size + 1, 0, none⟩ (.slice Av xs.length cv)) (w.heap.size + 1 + 1) (.bool true)).block w2.heap.size (by simpa [World.setCell] using hlt) (fun e => by injection e; omega)
      exact e2.trans (e1.trans hK)
    have R3 := Lib.hid (row_box (u := .bool true) b2 (by decide) (row_box (u := .slice Av xs.length cv) hmb.2.1 (by decide) hrow2))
    have Y3 := Lib.hid (show YRows w.heap.size xs ((W.setCell ⟨w.heap.size + 1, 0, none⟩ (.slice Av xs.length cv)).setCell ⟨w.heap.size + 1 + 1, 0, none⟩ (.bool true)) from fun y hy => row_box b2 (by decide) (row_box hmb.2.1 (by decide) (row_mono (hS.2.1 y hy) (show w.heap.size ≤ w2.heap.size by omega))))
    have BB := Lib.hid ((hB.setCell (p := ⟨w.heap.size + 1, 0, none⟩) (by show w.heap.size ≤ w.heap.size + 1; omega) (.slice Av xs.length cv)).setCell (p := ⟨w.heap.size + 1 + 1, 0, none⟩) (by show w.heap.size ≤ w.heap.size + 1 + 1; omega) (.bool true))
    have P1 := Lib.hid (show Boxed (((W.setCell ⟨w.heap.size + 1, 0, none⟩ (.slice Av xs.length cv)).setCell ⟨w.heap.size + 1 + 1, 0, none⟩ (.bool true)).putObj w2.heap.size (.deferred none)) (w.heap.size + 1) 29 (.slice Av xs.length cv) from (World.putObj_heap_other (by omega)).trans b1)
    have P2 := Lib.hid (show Boxed (((W.setCell ⟨w.heap.size + 1, 0, none⟩ (.slice Av xs.length cv)).setCell ⟨w.heap.size + 1 + 1, 0, none⟩ (.bool true)).putObj w2.heap.size (.deferred none)) (w.heap.size + 1 + 1) 4 (.bool true) from (World.putObj_heap_other (by omega)).trans b2')
    have HK := Lib.hid hK2
    clear b2 b1 b2' hK2 hrow hrow2
    gi_wp2
    refine ⟨by simp, .inl ⟨_, _, rfl, run_takeDeferred HK.out, ?_⟩⟩
    refine ⟨.tuple #[.slice Av xs.length cv, .bool true], by simp [results, Tryd.results13, go_sem, P1.out.cell, P2.out.cell], ?_⟩
    exact ⟨_, xs, rfl, ⟨ownsRow_putObj R3.out _ HK.out rfl, fun y hy => ownsRow_putObj (Y3.out y hy) _ HK.out rfl, hS.2.2, .inr ⟨hS.1, hmost⟩⟩, BB.out.trans (belowK_b (w := w) (Nat.le_refl _) _ _ _ _ (by omega) HK.out rfl rfl)⟩
theorem met_any (t : List CellD) (most : Int) (A : Option Addr) (c : Nat) (w : World) (hr : Reads w A t) (hf : Fine t) (hT : Tabs w) :
    Calls Tryd.prog 13 #[.slice A t.length c, .int .i64 most] w fun e V => ∃ v ys, e = .returned (.tuple #[v, .bool true]) ∧ MetAt w.heap.size (partsR t) most v ys V ∧ Below w.heap.size w V :=
  callsIn_wide.1 (met_in 6 (by omega) t most A c w hr hf hT)
end Go.Proofs.YtfeaolnklooanaaDoor.Tm
