/- Sweep's law: told. -/
import Derived.Test.YthgnihckeckaiaaDoorSwK
namespace Go.Proofs.YthgnihckeckaiaaDoor.Tm
open Go.RowKit Go.Shelf
set_option linter.unusedVariables false
set_option linter.unusedSimpArgs false
attribute [local go_sem] Oper.semAt_some

def takeM (ws : List Int) (most : Nat) : List Int := if most = 0 then ws else ws.take most
set_option maxRecDepth 100000 in
set_option maxHeartbeats 4000000 in
theorem stold_in (n : Nat) (hn : 5 ≤ n) (w : World) (O : Nat → Prop) (ba room : Nat) (L : List ObjA) (roots : List Int) (A : Option Addr) (cap most : Nat) (hA : ArAt w O ba room L) (hr : WReads w A roots) (hx : ∀ x ∈ roots, 0 ≤ x ∧ x < 18446744073709551616) (hlen : roots.length ≤ 1000000000000000000) (hall : allFind L roots = true) (hm : most ≤ 1000000000) :
    CallsIn Fence.wide n Tryd.prog 53 #[.pointer (some ⟨ba, 0, none⟩), .slice A roots.length cap, .int .i64 (most : Int)] w fun e V => ∃ A' c', e = .returned (.tuple #[.slice A' (takeM (rchW L roots) most).length c', .int .i64 0]) ∧ V.ownsRow w.heap.size 27 1 (.slice A' (takeM (rchW L roots) most).length c') (takeM (rchW L roots) most).length (encW (takeM (rchW L roots) most)) ∧ Below w.heap.size w V := by
  have h1 : 1 ≤ n := by omega
  have hF1 : Fence.wide.fn 100 := trivial
  obtain ⟨i0, hi, hz0, hz1, hz2⟩ := info_parts word_info
  have hB0 := below_one w (.cells #[.int .i64 (most : Int)] 3)
  have BN : BlkIs (w.alloc (.cells #[.int .i64 (most : Int)] 3)) w.heap.size #[.int .i64 (most : Int)] 3 := heap_new w _
  have hrc := sreach_any (w.alloc (.cells #[.int .i64 (most : Int)] 3)) O ba room L roots A cap (hA.below hB0) (hr.below hB0) hx hlen hall
  have hxo : ∀ x ∈ roots, FindOk L x := fun x q => ⟨(List.all_eq_true.1 hall) x q, hx x q⟩
  have hrl := (rch_ok hA.wf hxo).met.len
  have hlims := hA.lims
  have hll := hA.wf.len
  obtain ⟨ws, hws⟩ : ∃ ws, rchW L roots = ws := ⟨_, rfl⟩
  rw [hws] at hrc hrl ⊢
  have HB0 := Lib.hid hB0
  have HBN := Lib.hid BN
  clear hA hr hx hall hxo hws hB0 BN
  refine callsIn_of_wp_marks Tryd.func53 rfl trivial ?_ rfl
  simp only [Tryd.ntmps53, List.size_toArray, List.length_cons, List.length_nil, Nat.reduceAdd, Nat.reduceSub, Array.replicate_succ, Array.replicate_zero, List.push_toArray, List.append_toArray, List.nil_append, List.cons_append]
  have heq := fun (W : World) fn first captured => run_eql_func_nil2 (P := Tryd.prog) W Tryd.underlying110 fn first captured
  gi_wp2_with (gi_at_call 100; refine (callsIn_wide.2 hrc).mono ?_; rintro e w1 ⟨b, A', c', rfl, hbge, hbc, hrow, hb1⟩; have HBC := Lib.hid hbc; have HROW := Lib.hid hrow; have HB1 := Lib.hid hb1)
  have hz1w : (w.alloc (.cells #[.int .i64 (most : Int)] 3)).heap.size = w.heap.size + 1 := World.size_alloc _ _
  have hs1 := HB1.out.size
  rw [hz1w] at hs1 hbge
  have hrow' : w1.ownsRow w.heap.size 27 1 (.slice A' ws.length c') ws.length (encW ws) := row_mono HROW.out (by rw [hz1w]; omega)
  obtain ⟨w2, hw2⟩ : ∃ V, w1.alloc (.cells #[.slice none 0 0] 31) = V := ⟨_, rfl⟩
  have hB12 : Below w1.heap.size w1 w2 := by rw [← hw2]; exact below_one w1 _
  have hz2w : w2.heap.size = w1.heap.size + 1 := by rw [← hw2]; exact World.size_alloc _ _
  have BX : Boxed w2 w1.heap.size 31 (.slice none 0 0) := by rw [← hw2]; exact Boxed.new w1 _ _
  have hBw1 : Below w.heap.size w w1 := below_then HB0.out HB1.out
  have BN2 : BlkIs w2 w.heap.size #[.int .i64 (most : Int)] 3 := (HBN.out.below HB1.out).below hB12
  have hAl : ∀ g o, A' = some ⟨g, o, none⟩ → g < w1.heap.size := fun g o e => by
    subst e
    exact row_lt hrow' g (by simp [Value.ownBlock])
  have HSQ := Lib.hid (reach1_gh (n - 1) (by omega) b (w2.heap.size + 1) w2 A' c' ws (cell_below hB12 HBC.out) ((WReads.of_row HROW.out).below hB12) (by omega) (fun g o e => by have := hAl g o e; omega))
  have HST := Lib.hid (show GaSt w w2 w1.heap.size (fun k => k = w1.heap.size) [] (.slice none 0 0) w2 from ⟨BX, row_nil _ _ _ _, rfl, fun k hk => by simp [Value.ownBlock] at hk, fun k hk => .inl hk, below_then hBw1 hB12, fun _ _ _ => rfl, ⟨hBw1.size, by omega⟩⟩)
  have HN2 := Lib.hid BN2
  have HAL := Lib.hid hAl
  have hn0 : w.heap.size ≠ w1.heap.size := by omega
  obtain ⟨bx, hbx⟩ : ∃ k, w1.heap.size = k := ⟨_, rfl⟩
  rw [hw2]
  rw [hbx] at HST HAL hz2w hn0 hs1 ⊢
  clear hrc heq hbc hrow hb1 hrow' hB12 BX BN2 hAl hBw1 hbge hw2 hbx hz1w HROW HBC HB1 HB0 HBN
  refine range_gh rfl h1 (gf := 130) (lb := #[.pointer (some ⟨b, 0, none⟩)]) rfl trivial (enters_of Tryd.func130 (by kernel_rfl) rfl) rfl HSQ.out (fun k => k = bx) (fun k hk => ⟨by omega, fun ⟨o, e⟩ => by have := HAL.out k o e; omega⟩)
    (fun cs pre W => (∃ v, GaSt w w2 bx cs pre v W ∧ w2.heap.size ≤ W.heap.size) ∧ (most = 0 ∨ pre.length < most))
    (fun cd cs pre W => cd = .exit 0 ∧ (∃ v, GaSt w w2 bx cs pre v W ∧ w2.heap.size ≤ W.heap.size) ∧ most ≠ 0 ∧ pre.length = most)
    ?gI ?sI ?sIx ?h0
    (fun y => { tmps := #[.pointer (some ⟨ba, 0, none⟩), .slice A roots.length cap, .int .i64 (most : Int), undef, undef, .pointer (some ⟨w.heap.size, 0, none⟩), .slice none 0 0, .int .i64 0, .func (.func 130) #[] #[.pointer (some ⟨b, 0, none⟩)], .int .i64 0, .pointer (some ⟨bx, 0, none⟩), .int .u64 y, .tuple #[.func (.func 130) #[] #[.pointer (some ⟨b, 0, none⟩)], .int .i64 0], .pointer (some ⟨ba, 0, none⟩), .slice A roots.length cap, .tuple #[.func (.func 130) #[] #[.pointer (some ⟨b, 0, none⟩)], .int .i64 0], .func (.func 130) #[] #[.pointer (some ⟨b, 0, none⟩)], .int .i64 0, .func (.func 130) #[] #[.pointer (some ⟨b, 0, none⟩)], .bool false, undef, .func (.func 130) #[] #[.pointer (some ⟨b, 0, none⟩)], .int .u64 y, undef, undef, undef, undef, undef, undef, undef, undef, undef, undef], defers := [] }) ?assign ?body ?done ?stop
  case gI =>
    rintro cs pre W V ⟨⟨v, h, hs⟩, hp⟩ hf
    exact ⟨⟨v, h.fr hf hs, Nat.le_trans hs hf.size⟩, hp⟩
  case sI =>
    rintro cs pre W r o hl ⟨⟨v, h, hs⟩, hp⟩
    exact ⟨⟨v, h.putObj o hl, by simpa [World.putObj] using hs⟩, hp⟩
  case sIx =>
    rintro cd cs pre W r o hl ⟨hc, ⟨v, h, hs⟩, hp⟩
    exact ⟨hc, ⟨v, h.putObj o hl, by simpa [World.putObj] using hs⟩, hp⟩
  case h0 => exact ⟨⟨_, HST.out, Nat.le_refl _⟩, by simp; omega⟩
  case assign =>
    intro x W K hK
    gi_wp2
    exact hK
  case body =>
    rintro cs pre x W ⟨⟨v, hst, hsW⟩, hpm⟩ hcs hpre hsz
    obtain ⟨Av, cv, rfl⟩ := row_slice hst.row
    have hlen : pre.length + 1 ≤ 262144 := by
      have h1 := hpre.length_le
      simp at h1; omega
    have hcn := ((BlkIs.cell (show BlkIs W w.heap.size #[.int .i64 (most : Int)] 3 from (hst.same _ (by omega) hn0).trans HN2.out)) 0 (v := .int .i64 (most : Int)) rfl)
    have hlt := hst.lt
    have HST' := Lib.hid hst
    have HCS := Lib.hid hcs
    have hc := hst.box.cell
    by_cases hlast : pre.length + 1 = most
    · have e1 : (((pre.length + 1 : Nat) : Int) == (most : Int)) = true := by rw [hlast]; simp
      have e2 : ((pre.length : Int) + 1 == (most : Int)) = true := by simp; omega
      have HL := Lib.hid hlast
      clear hst hcs hlast hpm
      gi_wp2_with (gi_at_builtin; refine wpListIn_append_own_at _ rfl _ _ 31 rfl (w2.heap.size + 2) 27 i0 (.int .u64 0) 1 8 Tryd.underlying31 hi hz0 hz1 hz2 rfl (by decide) _ _ _ rfl (HST'.out.row.alloc _) ⟨W.heap.size, 0, none⟩ 1 1 [.int .u64 x] rfl rfl (cell_one_new _ _ _) (by simp [Value.oneCell']) (by unfold maxLen; omega) (by omega) (by rw [World.size_alloc]; omega) ?_; intro v' w3 hown' hgrow hnil' hat; obtain ⟨g', cap', rfl⟩ := ownsRow_succ hown'; have HSP := Lib.hid (HST'.out.step (by omega) HCS.out hown' hgrow (by rw [World.size_alloc] at hat; exact hat)); have hc1 := HSP.out.1.cell; have hf1 := HSP.out.1.frozen; have hc5 := ((BlkIs.cell (show BlkIs (w3.setCell ⟨bx, 0, none⟩ (.slice (some ⟨g', 0, none⟩) (pre.length + 1) cap')) w.heap.size #[.int .i64 (most : Int)] 3 from (HSP.out.2.choose_spec.2.1.same _ (by omega) hn0).trans HN2.out)) 0 (v := .int .i64 (most : Int)) rfl))
      obtain ⟨_, cs', k1, k2, k3⟩ := HSP.out
      exact ⟨⟨k3 _ (by omega) (by omega), k3 _ (by omega) (by omega)⟩, cs', k1, rfl, ⟨_, k2, Nat.le_trans hsW k1.size⟩, by have := HL.out; omega, by rw [List.length_append, List.length_singleton]; exact HL.out⟩
    · have e1 : (((pre.length + 1 : Nat) : Int) == (most : Int)) = false := beq_eq_false_iff_ne.2 (by omega)
      have e2 : ((pre.length : Int) + 1 == (most : Int)) = false := beq_eq_false_iff_ne.2 (by omega)
      have HL := Lib.hid (show most = 0 ∨ pre.length + 1 < most by omega)
      clear hst hcs hlast hpm
      gi_wp2_with (gi_at_builtin; refine wpListIn_append_own_at _ rfl _ _ 31 rfl (w2.heap.size + 2) 27 i0 (.int .u64 0) 1 8 Tryd.underlying31 hi hz0 hz1 hz2 rfl (by decide) _ _ _ rfl (HST'.out.row.alloc _) ⟨W.heap.size, 0, none⟩ 1 1 [.int .u64 x] rfl rfl (cell_one_new _ _ _) (by simp [Value.oneCell']) (by unfold maxLen; omega) (by omega) (by rw [World.size_alloc]; omega) ?_; intro v' w3 hown' hgrow hnil' hat; obtain ⟨g', cap', rfl⟩ := ownsRow_succ hown'; have HSP := Lib.hid (HST'.out.step (by omega) HCS.out hown' hgrow (by rw [World.size_alloc] at hat; exact hat)); have hc1 := HSP.out.1.cell; have hf1 := HSP.out.1.frozen; have hc5 := ((BlkIs.cell (show BlkIs (w3.setCell ⟨bx, 0, none⟩ (.slice (some ⟨g', 0, none⟩) (pre.length + 1) cap')) w.heap.size #[.int .i64 (most : Int)] 3 from (HSP.out.2.choose_spec.2.1.same _ (by omega) hn0).trans HN2.out)) 0 (v := .int .i64 (most : Int)) rfl))
      obtain ⟨_, cs', k1, k2, k3⟩ := HSP.out
      exact ⟨⟨k3 _ (by omega) (by omega), k3 _ (by omega) (by omega)⟩, cs', k1, ⟨_, k2, Nat.le_trans hsW k1.size⟩, by rw [List.length_append, List.length_singleton]; exact HL.out⟩
  case done =>
    rintro cs W ⟨⟨v, h, hs⟩, hp⟩ hK
    have HE := Lib.hid (show takeM ws most = ws by
      unfold takeM
      rcases hp with h0 | h0
      · rw [if_pos h0]
      · rw [if_neg (by omega), List.take_of_length_le (by omega)])
    obtain ⟨Av, cv, rfl⟩ := row_slice h.row
    have hc := h.box.cell
    have HH := Lib.hid h
    have HK := Lib.hid hK
    have hlt := h.lt
    clear h hK hp
    gi_wp2
    refine ⟨by simp, .inl ⟨_, _, rfl, run_takeDeferred HK.out, ?_⟩⟩
    refine ⟨_, results_tmp2 rfl _ _ _, ?_⟩
    rw [HE.out]
    exact ⟨Av, cv, rfl, ownsRow_putObj (row_mono HH.out.row (by omega)) _ HK.out rfl, HH.out.base.trans (belowK_b (w := w) (Nat.le_refl _) W _ _ _ (by omega) HK.out rfl rfl)⟩
  case stop =>
    rintro cd cs pre W hpre ⟨rfl, ⟨v, h, hs⟩, hm0, hp⟩ hK
    have HE := Lib.hid (show takeM ws most = pre by
      unfold takeM
      rw [if_neg hm0, ← hp]
      exact (List.prefix_iff_eq_take.1 hpre).symm)
    obtain ⟨Av, cv, rfl⟩ := row_slice h.row
    have hc := h.box.cell
    have HH := Lib.hid h
    have HK := Lib.hid hK
    have hlt := h.lt
    clear h hK hp hpre hm0
    gi_wp2
    refine ⟨by simp, .inl ⟨_, _, rfl, run_takeDeferred HK.out, ?_⟩⟩
    refine ⟨_, results_tmp2 rfl _ _ _, ?_⟩
    rw [HE.out]
    exact ⟨Av, cv, rfl, ownsRow_putObj (row_mono HH.out.row (by omega)) _ HK.out rfl, HH.out.base.trans (belowK_b (w := w) (Nat.le_refl _) W _ _ _ (by omega) HK.out rfl rfl)⟩
theorem stold_any (w : World) (O : Nat → Prop) (ba room : Nat) (L : List ObjA) (roots : List Int) (A : Option Addr) (cap most : Nat) (hA : ArAt w O ba room L) (hr : WReads w A roots) (hx : ∀ x ∈ roots, 0 ≤ x ∧ x < 18446744073709551616) (hlen : roots.length ≤ 1000000000000000000) (hall : allFind L roots = true) (hm : most ≤ 1000000000) :
    Calls Tryd.prog 53 #[.pointer (some ⟨ba, 0, none⟩), .slice A roots.length cap, .int .i64 (most : Int)] w fun e V => ∃ A' c', e = .returned (.tuple #[.slice A' (takeM (rchW L roots) most).length c', .int .i64 0]) ∧ V.ownsRow w.heap.size 27 1 (.slice A' (takeM (rchW L roots) most).length c') (takeM (rchW L roots) most).length (encW (takeM (rchW L roots) most)) ∧ Below w.heap.size w V :=
  callsIn_wide.1 (stold_in 6 (by omega) w O ba room L roots A cap most hA hr hx hlen hall hm)
theorem stold_bad (w : World) (O : Nat → Prop) (ba room : Nat) (L : List ObjA) (roots : List Int) (A : Option Addr) (cap : Nat) (most : Int) (hA : ArAt w O ba room L) (hr : WReads w A roots) (hx : ∀ x ∈ roots, 0 ≤ x ∧ x < 18446744073709551616) (hlen : roots.length ≤ 1000000000000000000) (hall : ¬ allFind L roots = true) :
    Calls Tryd.prog 53 #[.pointer (some ⟨ba, 0, none⟩), .slice A roots.length cap, .int .i64 most] w fun e w' => e = .returned (.tuple #[.slice none 0 0, .int .i64 31]) ∧ Below w.heap.size w w' := by
  have hB0 := below_one w (.cells #[.int .i64 most] 3)
  have hrc := sreach_bad (w.alloc (.cells #[.int .i64 most] 3)) O ba room L roots A cap (hA.below hB0) (hr.below hB0) hx hlen hall
  have HB0 := Lib.hid hB0
  have heq := fun (W : World) => run_eql_nil_nil (P := Tryd.prog) W Tryd.underlying110
  clear hB0 hA hr hx hall
  go_enter Tryd.func53, Tryd.ntmps53
  go_wp2_with fail
  refine hrc.mono ?_
  rintro e w1 ⟨rfl, hb1⟩
  go_wp2
  go_ret2
  exact ⟨rfl, below_alloc' (below_then HB0.out hb1) _⟩
end Go.Proofs.YthgnihckeckaiaaDoor.Tm
