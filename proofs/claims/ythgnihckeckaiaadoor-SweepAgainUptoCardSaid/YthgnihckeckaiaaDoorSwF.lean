/- Sweep's Collect, refused; the law's all and told. -/
import Derived.Test.YthgnihckeckaiaaDoorSwE
import Derived.Maps.OwnIn
namespace Go.Proofs.YthgnihckeckaiaaDoor.Tm
open Go.RowKit Go.Shelf
set_option linter.unusedVariables false
set_option linter.unusedSimpArgs false
attribute [local go_sem] Oper.semAt_some

theorem collect_any (w : World) (O : Nat → Prop) (ba room : Nat) (L : List ObjA) (roots : List Int) (A : Option Addr) (cap cells : Nat) (hA : ArAt w O ba room L) (hT : TabsA w) (hcl : ∀ o ∈ L, WfC o.cell) (hr : WReads w A roots) (hx : ∀ x ∈ roots, 0 ≤ x ∧ x < 18446744073709551616) (hlen : roots.length ≤ 10000000000000) (hall : allFind L roots = true) (hcells : cells ≤ 262144) (hfit : costsW L (rchW L roots) ≤ cells) :
    Calls Tryd.prog 49 #[.pointer (some ⟨ba, 0, none⟩), .slice A roots.length cap, .int .i64 (cells : Int)] w fun e V => ∃ tb O' A' c', e = .returned (.tuple #[.pointer (some ⟨tb, 0, none⟩), .slice A' roots.length c', .int .i64 0]) ∧ ColRes w V tb cells O' L roots A' c' :=
  callsIn_wide.1 (collect_in 7 (by omega) w O ba room L roots A cap cells hA hT hcl hr hx hlen hall hcells hfit)
theorem collect_bad (w : World) (O : Nat → Prop) (ba room : Nat) (L : List ObjA) (roots : List Int) (A : Option Addr) (cap : Nat) (cells : Int) (hA : ArAt w O ba room L) (hT : TabsA w) (hcl : ∀ o ∈ L, WfC o.cell) (hr : WReads w A roots) (hx : ∀ x ∈ roots, 0 ≤ x ∧ x < 18446744073709551616) (hlen : roots.length ≤ 10000000000000) (hall : ¬ allFind L roots = true) :
    Calls Tryd.prog 49 #[.pointer (some ⟨ba, 0, none⟩), .slice A roots.length cap, .int .i64 cells] w fun e V => e = .returned (.tuple #[.pointer none, .slice none 0 0, .int .i64 31]) ∧ Below w.heap.size w V := by
  have hlv := slive_any w O ba room L roots A cap hA hT hcl hr hx (by omega)
  have hE : rootE L roots = 31 := by unfold rootE; rw [if_neg hall]
  rw [hE] at hlv
  clear hA hT hcl hr hx hall hE
  go_enter Tryd.func49, Tryd.ntmps49
  go_wp2_with fail
  refine hlv.mono ?_
  rintro e w1 ⟨rfl, hb1⟩
  go_wp2
  refine bodyPost_ret (results_tmp3 rfl _ _ _) rfl ?_
  exact ⟨rfl, hb1⟩
theorem collect_nil (w : World) (A : Option Addr) (n cap : Nat) (cells : Int) :
    Calls Tryd.prog 49 #[.pointer none, .slice A n cap, .int .i64 cells] w fun e V => e = .returned (.tuple #[.pointer none, .slice none 0 0, .int .i64 2]) ∧ Below w.heap.size w V := by
  have hlv := slive_nil w A n cap
  go_enter Tryd.func49, Tryd.ntmps49
  go_wp2_with fail
  refine hlv.mono ?_
  rintro e w1 ⟨rfl, hb1⟩
  go_wp2
  refine bodyPost_ret (results_tmp3 rfl _ _ _) rfl ?_
  exact ⟨rfl, hb1⟩
theorem collect_arg (w : World) (O : Nat → Prop) (ba room : Nat) (L : List ObjA) (roots : List Int) (A : Option Addr) (cap : Nat) (cells : Int) (hA : ArAt w O ba room L) (hT : TabsA w) (hcl : ∀ o ∈ L, WfC o.cell) (hr : WReads w A roots) (hx : ∀ x ∈ roots, 0 ≤ x ∧ x < 18446744073709551616) (hlen : roots.length ≤ 10000000000000) (hall : allFind L roots = true) (hc : cells < 0 ∨ 262144 < cells) :
    Calls Tryd.prog 49 #[.pointer (some ⟨ba, 0, none⟩), .slice A roots.length cap, .int .i64 cells] w fun e V => e = .returned (.tuple #[.pointer none, .slice none 0 0, .int .i64 1]) ∧ Below w.heap.size w V := by
  have hlv := slive_any w O ba room L roots A cap hA hT hcl hr hx (by omega)
  have hE : rootE L roots = 0 := by unfold rootE; rw [if_pos hall]
  rw [hE] at hlv
  have hnew := fun V => new_bad cells V hc
  generalize costsW L (rchX L roots) = N at *
  clear hA hT hcl hr hx hall hE hc
  go_enter Tryd.func49, Tryd.ntmps49
  go_wp2_with fail
  refine hlv.mono ?_
  rintro e w1 ⟨rfl, hb1⟩
  go_wp2_with fail
  refine (hnew w1).mono ?_
  rintro e w2 ⟨rfl, hb2⟩
  go_wp2
  refine bodyPost_ret (results_tmp3 rfl _ _ _) rfl ?_
  exact ⟨rfl, below_then hb1 hb2⟩
theorem collect_full (w : World) (O : Nat → Prop) (ba room : Nat) (L : List ObjA) (roots : List Int) (A : Option Addr) (cap cells : Nat) (hA : ArAt w O ba room L) (hT : TabsA w) (hcl : ∀ o ∈ L, WfC o.cell) (hr : WReads w A roots) (hx : ∀ x ∈ roots, 0 ≤ x ∧ x < 18446744073709551616) (hlen : roots.length ≤ 10000000000000) (hall : allFind L roots = true) (hcells : cells ≤ 262144) (hfull : cells < costsW L (rchW L roots)) :
    Calls Tryd.prog 49 #[.pointer (some ⟨ba, 0, none⟩), .slice A roots.length cap, .int .i64 (cells : Int)] w fun e V => e = .returned (.tuple #[.pointer none, .slice none 0 0, .int .i64 30]) ∧ Below w.heap.size w V := by
  have hlv := slive_any w O ba room L roots A cap hA hT hcl hr hx (by omega)
  have hE : rootE L roots = 0 := by unfold rootE; rw [if_pos hall]
  have hX0 : rchX L roots = rchW L roots := by unfold rchX; rw [if_pos hall]
  rw [hE, hX0] at hlv
  have h3 := tabs_size hT
  have hnew := fun V (hb : Below w.heap.size w V) => new_any cells V hcells (Nat.le_trans h3 hb.size)
  generalize costsW L (rchW L roots) = N at *
  have hfb : decide ((cells : Int) < (N : Int)) = true := decide_eq_true (by omega)
  clear hA hT hcl hr hx hall hE hX0
  go_enter Tryd.func49, Tryd.ntmps49
  go_wp2_with fail
  refine hlv.mono ?_
  rintro e w1 ⟨rfl, hb1⟩
  go_wp2_with fail
  refine (hnew w1 hb1).mono ?_
  rintro e w2 ⟨tb, O2, rfl, _, _, hb2⟩
  go_wp2
  refine bodyPost_ret (results_tmp3 rfl _ _ _) rfl ?_
  exact ⟨rfl, below_then hb1 hb2⟩

/-! what is handed is gathered -/
structure GaSt (w w0 : World) (bx : Nat) (cs : Nat → Prop) (pre : List Int) (v : Value) (W : World) : Prop where
  box : Boxed W bx 31 v
  row : W.ownsRow (w0.heap.size + 2) 27 1 v pre.length (encW pre)
  cb : cs bx
  cr : ∀ k, v.ownBlock = some k → cs k
  own : ∀ k, cs k → k = bx ∨ v.ownBlock = some k
  base : Below w.heap.size w W
  same : ∀ k, k < w0.heap.size → k ≠ bx → W.heap[k]? = w0.heap[k]?
  lt : w.heap.size ≤ bx ∧ bx < w0.heap.size
theorem GaSt.fr {w w0 : World} {bx : Nat} {cs : Nat → Prop} {pre : List Int} {v : Value} {W V : World} (h : GaSt w w0 bx cs pre v W) (hf : Fr (fun k => w0.heap.size + 2 ≤ k ∧ ¬ cs k) W V) (hs : w0.heap.size ≤ W.heap.size) : GaSt w w0 bx cs pre v V :=
  ⟨(hf.block _ h.box.lt (fun e => e.2 h.cb)).trans h.box, row_fr h.row hf (fun k hk e => e.2 (h.cr k hk)), h.cb, h.cr, h.own, h.base.trans (hf.below h.base.size fun k hk => by have := hk.1; have := h.lt; omega), fun k hk hne => (hf.block k (by omega) (fun e => by have := e.1; omega)).trans (h.same k hk hne), h.lt⟩
theorem GaSt.putObj {w w0 : World} {bx : Nat} {cs : Nat → Prop} {pre : List Int} {v : Value} {W : World} (h : GaSt w w0 bx cs pre v W) {r : Loop} (o' : Obj) (hl : W.heap[w0.heap.size + 1]? = some (.loop r)) : GaSt w w0 bx cs pre v (W.putObj (w0.heap.size + 1) o') := by
  have hlt := h.lt
  exact ⟨(World.putObj_heap_other (by omega)).trans h.box, ownsRow_putObj h.row _ hl rfl, h.cb, h.cr, h.own, h.base.trans (belowK_b (w := w) (Nat.le_refl _) W _ _ o' (by omega) hl rfl rfl), fun k hk hne => (World.putObj_heap_other (by omega)).trans (h.same k hk hne), h.lt⟩
theorem GaSt.step {w w0 : World} {bx : Nat} {cs : Nat → Prop} {pre : List Int} {v v' : Value} {W w1 : World} {x : Int} {tmp : Obj} (h : GaSt w w0 bx cs pre v W) (hs : w0.heap.size + 2 ≤ W.heap.size) (hcs : ∀ k, cs k → k < W.heap.size)
    (hown : w1.ownsRow (w0.heap.size + 2) 27 1 v' (pre.length + 1) (encW pre ++ [.int .u64 x])) (hg : (W.alloc tmp).grownBy w1 v.ownBlock) (hat : v'.ownBlock = v.ownBlock ∨ v'.ownBlock = some (W.heap.size + 1)) :
    Boxed w1 bx 31 v ∧ ∃ cs', KpG cs cs' W (w1.setCell ⟨bx, 0, none⟩ v') ∧ GaSt w w0 bx cs' (pre ++ [x]) v' (w1.setCell ⟨bx, 0, none⟩ v') ∧ (∀ k, k < w0.heap.size + 2 → k ≠ bx → (w1.setCell ⟨bx, 0, none⟩ v').heap[k]? = W.heap[k]?) := by
  have hrb := row_base h.row
  obtain ⟨l1, l2⟩ := h.lt
  have hv1 : Boxed w1 bx 31 v := (h.box.alloc tmp).kept hg (h.box.not_row (by decide) h.row)
  have hsz : W.heap.size + 1 ≤ w1.heap.size := by have := hg.size; rw [World.size_alloc] at this; omega
  have hz : (w1.setCell ⟨bx, 0, none⟩ v').heap.size = w1.heap.size := by simp [World.setCell]
  have hnb : v'.ownBlock ≠ some bx := fun e => by have := row_base hown _ e; omega
  have hblk : ∀ k, k < W.heap.size → k ≠ bx → v.ownBlock ≠ some k → (w1.setCell ⟨bx, 0, none⟩ v').heap[k]? = W.heap[k]? := fun k hk hne hv => by
    have h1 : (w1.setCell ⟨bx, 0, none⟩ v').heap[k]? = w1.heap[k]? := Below.heap_setCell _ _ _ _ (fun e => hne e)
    have h2 : w1.heap[k]? = (W.alloc tmp).heap[k]? := hg.block k (by rw [World.size_alloc]; omega) (fun e => hv e.symm)
    exact h1.trans (h2.trans (Below.heap_alloc _ _ _ hk))
  have hrow : (w1.setCell ⟨bx, 0, none⟩ v').ownsRow (w0.heap.size + 2) 27 1 v' (pre.length + 1) (encW pre ++ [.int .u64 x]) := row_other hown hnb _ _
  refine ⟨hv1, fun k => k = bx ∨ v'.ownBlock = some k, ⟨by omega, fun k o hk ho _ => ?_, fun k hk => ?_⟩, ⟨hv1.set v', ?_, .inl rfl, fun k hk => .inr hk, fun k hk => hk, ?_, fun k hk hne => ?_, h.lt⟩, fun k hk hne => hblk k (by omega) hne (fun e => by have := hrb k e; omega)⟩
  · rw [hblk k (lt_of_block ho) (fun e => hk (e ▸ h.cb)) (fun e => hk (h.cr k e))]
    exact ho
  · rcases hk with rfl | hk
    · exact ⟨.inl h.cb, by omega⟩
    · have hlt := row_lt hown k hk
      refine ⟨?_, by omega⟩
      rcases hat with e | e
      · exact .inl (h.cr k (by rw [← e]; exact hk))
      · rw [hk] at e
        injection e with e
        exact .inr (by omega)
  · rw [List.length_append, List.length_singleton, encW_snoc]
    exact hrow
  · have hb1 : Below w.heap.size W w1 := ((Below.refl _ W).alloc (by omega) tmp).grown hg (by rw [World.size_alloc]; omega) (fun k e => by have := hrb k e; omega)
    exact h.base.trans (hb1.setCell (p := ⟨bx, 0, none⟩) l1 v')
  · exact (hblk k (by omega) hne (fun e => by have := hrb k e; omega)).trans (h.same k hk hne)
def sallWorld (p0 : Option Addr) (w : World) : World := (w.alloc (.cells #[.slice none 0 0] 31)).alloc (.cells #[.pointer p0] 24)
set_option maxRecDepth 100000 in
set_option maxHeartbeats 4000000 in
theorem sall_in (n : Nat) (hn : 5 ≤ n) (p0 : Option Addr) (ws : List Int) (hwl : ws.length ≤ 262144) (w : World)
    (hseq : SeqGh Fence.wide (n - 1) Tryd.prog 107 #[.pointer (some ⟨w.heap.size + 1, 0, none⟩)] ((sallWorld p0 w).heap.size + 1) ws (fun _ => False) (sallWorld p0 w)) :
    CallsIn Fence.wide n Tryd.prog 55 #[.pointer p0] w fun e V => ∃ A c, e = .returned (.slice A ws.length c) ∧ V.ownsRow w.heap.size 27 1 (.slice A ws.length c) ws.length (encW ws) ∧ Below w.heap.size w V := by
  have h1 : 1 ≤ n := by omega
  have hF1 : Fence.wide.fn 60 := trivial
  obtain ⟨i0, hi, hz0, hz1, hz2⟩ := info_parts word_info
  have HSQ := Lib.hid hseq
  clear hseq
  refine callsIn_of_wp_marks Tryd.func55 rfl trivial ?_ rfl
  simp only [Tryd.ntmps55, List.size_toArray, List.length_cons, List.length_nil, Nat.reduceAdd, Nat.reduceSub, Array.replicate_succ, Array.replicate_zero, List.push_toArray, List.append_toArray, List.nil_append, List.cons_append]
  have heq := fun (W : World) fn first captured => run_eql_func_nil2 (P := Tryd.prog) W Tryd.underlying110 fn first captured
  gi_wp2_with (gi_at_call 60; refine (callsIn_wide.2 (seqAll_gh p0 _)).mono ?_; rintro e w2 ⟨rfl, hw2⟩; have hw3 : Hid (w2 = sallWorld p0 w) := Lib.hid hw2; clear hw2)
  have hz : (sallWorld p0 w).heap.size = w.heap.size + 2 := by simp [sallWorld]
  have B3 : Boxed (sallWorld p0 w) w.heap.size 31 (.slice none 0 0) := (Boxed.new w 31 (.slice none 0 0)).alloc _
  have HBW : Below w.heap.size w (sallWorld p0 w) := below_alloc' (below_one w _) _
  rw [← hw3.out] at hz B3 HBW HSQ
  have HST := Lib.hid (show GaSt w w2 w.heap.size (fun k => k = w.heap.size) [] (.slice none 0 0) w2 from ⟨B3, row_nil _ _ _ _, rfl, fun k hk => by simp [Value.ownBlock] at hk, fun k hk => .inl hk, HBW, fun _ _ _ => rfl, ⟨Nat.le_refl _, by omega⟩⟩)
  clear heq hw3 B3 HBW
  refine range_gh rfl h1 (gf := 107) (lb := #[.pointer (some ⟨w.heap.size + 1, 0, none⟩)]) rfl trivial (enters_of Tryd.func107 (by kernel_rfl) rfl) rfl HSQ.out (fun k => k = w.heap.size) (fun k hk => ⟨by omega, fun h => h⟩)
    (fun cs pre W => ∃ v, GaSt w w2 w.heap.size cs pre v W ∧ w2.heap.size ≤ W.heap.size)
    (fun cd cs pre W => False)
    ?gI ?sI ?sIx ?h0
    (fun y => { tmps := #[.pointer p0, undef, .slice none 0 0, .pointer (some ⟨w.heap.size, 0, none⟩), .func (.func 107) #[] #[.pointer (some ⟨w.heap.size + 1, 0, none⟩)], .int .u64 y, .pointer p0, .func (.func 107) #[] #[.pointer (some ⟨w.heap.size + 1, 0, none⟩)], .func (.func 107) #[] #[.pointer (some ⟨w.heap.size + 1, 0, none⟩)], .bool false, .func (.func 107) #[] #[.pointer (some ⟨w.heap.size + 1, 0, none⟩)], .int .u64 y, undef, undef, undef, undef, undef], defers := [] }) ?assign ?body ?done ?stop
  case gI =>
    rintro cs pre W V ⟨v, h, hs⟩ hf
    exact ⟨v, h.fr hf hs, Nat.le_trans hs hf.size⟩
  case sI =>
    rintro cs pre W r o hl ⟨v, h, hs⟩
    exact ⟨v, h.putObj o hl, by simpa [World.putObj] using hs⟩
  case sIx => exact fun cd cs pre W r o hl h => h
  case h0 => exact ⟨_, HST.out, Nat.le_refl _⟩
  case assign =>
    intro x W K hK
    gi_wp2
    exact hK
  case body =>
    rintro cs pre x W ⟨v, hst, hsW⟩ hcs hpre hsz
    obtain ⟨Av, cv, rfl⟩ := row_slice hst.row
    have hlen : pre.length + 1 ≤ 262144 := by
      have h1 := hpre.length_le
      simp at h1; omega
    have HST' := Lib.hid hst
    have HCS := Lib.hid hcs
    have hc := hst.box.cell
    clear hst hcs
    gi_wp2_with (gi_at_builtin; refine wpListIn_append_own_at _ rfl _ _ 31 rfl (w2.heap.size + 2) 27 i0 (.int .u64 0) 1 8 Tryd.underlying31 hi hz0 hz1 hz2 rfl (by decide) _ _ _ rfl (HST'.out.row.alloc _) ⟨W.heap.size, 0, none⟩ 1 1 [.int .u64 x] rfl rfl (cell_one_new _ _ _) (by simp [Value.oneCell']) (by unfold maxLen; omega) (by omega) (by rw [World.size_alloc]; omega) ?_; intro v' w1 hown' hgrow hnil' hat; obtain ⟨g', cap', rfl⟩ := ownsRow_succ hown'; have HSP := Lib.hid (HST'.out.step (by omega) HCS.out hown' hgrow (by rw [World.size_alloc] at hat; exact hat)); have hc1 := HSP.out.1.cell; have hf1 := HSP.out.1.frozen)
    obtain ⟨_, cs', k1, k2, k3⟩ := HSP.out
    exact ⟨⟨k3 _ (by omega) (by omega), k3 _ (by omega) (by omega)⟩, cs', k1, _, k2, Nat.le_trans hsW k1.size⟩
  case done =>
    rintro cs W ⟨v, h, hs⟩ hK
    obtain ⟨Av, cv, rfl⟩ := row_slice h.row
    have hc := h.box.cell
    have HH := Lib.hid h
    have HK := Lib.hid hK
    clear h hK
    gi_wp2
    refine ⟨by simp, .inl ⟨_, _, rfl, run_takeDeferred HK.out, ?_⟩⟩
    refine ⟨_, results_tmp rfl _ _ _, ?_⟩
    exact ⟨Av, cv, rfl, ownsRow_putObj (row_mono HH.out.row (by omega)) _ HK.out rfl, HH.out.base.trans (belowK_b (w := w) (Nat.le_refl _) W _ _ _ (by omega) HK.out rfl rfl)⟩
  case stop =>
    intro cd cs pre W hS h
    exact h.elim
theorem sall_any (w : World) (O : Nat → Prop) (ba room : Nat) (l : List ObjA) (hA : ArAt w O ba room l) :
    Calls Tryd.prog 55 #[.pointer (some ⟨ba, 0, none⟩)] w fun e V => ∃ A c, e = .returned (.slice A (wordsA 0 l).length c) ∧ V.ownsRow w.heap.size 27 1 (.slice A (wordsA 0 l).length c) (wordsA 0 l).length (encW (wordsA 0 l)) ∧ Below w.heap.size w V := by
  have hB : Below w.heap.size w (sallWorld (some ⟨ba, 0, none⟩) w) := below_alloc' (below_one w _) _
  have hln : (wordsA 0 l).length ≤ 262144 := by
    rw [wordsA_len]
    have := hA.wf.len
    have := hA.lims
    omega
  refine callsIn_wide.1 (sall_in 6 (by omega) _ _ hln w (words1_gh 5 (by omega) (w.heap.size + 1) _ _ (sallWorld (some ⟨ba, 0, none⟩) w) O ba room l ?_ (hA.below hB)))
  have := (Boxed.new (w.alloc (.cells #[.slice none 0 0] 31)) 24 (.pointer (some ⟨ba, 0, none⟩))).cell
  rw [World.size_alloc] at this
  exact this
end Go.Proofs.YthgnihckeckaiaaDoor.Tm
