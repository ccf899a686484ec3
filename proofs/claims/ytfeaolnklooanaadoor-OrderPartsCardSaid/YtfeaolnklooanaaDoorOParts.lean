/- The law OrderParts: whatever the term and the numbers, it returns true. -/
import Derived.Test.YtfeaolnklooanaaDoorOPartsP
import Derived.Test.YtfeaolnklooanaaDoorSeqM1
import Derived.Test.YtfeaolnklooanaaDoorOElem
import Derived.Test.YtfeaolnklooanaaDoorMid
import Derived.LoopN
import Derived.Deep.DeepCutAuto
import Derived.Deep.CutRange
namespace Go.Proofs.YtfeaolnklooanaaDoor.Tm
open Go.RowKit Go.Shelf
set_option linter.unusedVariables false
set_option linter.unusedSimpArgs false
attribute [local go_sem] Oper.semAt_some

theorem run_neq_func_nil2 {P : Program} (w : World) {t : TypeId} {x y : Array TypeId} {z : Bool} (h : P.underlying t = some (.func x y z)) (fn : Fn) (first captured : Array Value) :
    (binOp .neq t (.func fn first captured) .nilFunc).run P w = .ok (.bool true) w := by
  simp only [binOp]
  simp [Op.equal, Op.maxDepth, run_equalIn_func_nil2 w 9999 h]
theorem run_equalIn_nils {P : Program} (w : World) (d : Nat) {t : TypeId} {x y : Array TypeId} {z : Bool} (h : P.underlying t = some (.func x y z)) :
    (Op.equalIn (d + 1) t .nilFunc .nilFunc).run P w = .ok true w := by
  simp [Op.equalIn, run_underlying h]
theorem run_eql_nils {P : Program} (w : World) {t : TypeId} {x y : Array TypeId} {z : Bool} (h : P.underlying t = some (.func x y z)) :
    (binOp .eql t .nilFunc .nilFunc).run P w = .ok (.bool true) w := by
  simp only [binOp]
  simp [Op.equal, Op.maxDepth, run_equalIn_nils w 9999 h]
theorem run_neq_nils {P : Program} (w : World) {t : TypeId} {x y : Array TypeId} {z : Bool} (h : P.underlying t = some (.func x y z)) :
    (binOp .neq t .nilFunc .nilFunc).run P w = .ok (.bool false) w := by
  simp only [binOp]
  simp [Op.equal, Op.maxDepth, run_equalIn_nils w 9999 h]
theorem rowIs_lt {W : World} {base c b o : Nat} {l : List CellD} (h : RowIs W base (some ⟨b, o, none⟩) c l) : b < W.heap.size := by
  rcases h.2 with ⟨e, _⟩ | ⟨g, cap, cur, hv, hb, hg, _⟩
  · injection e with e1; cases e1
  · injection hv with e1
    injection e1 with e1
    injection e1 with e1
    subst e1
    exact (Array.getElem?_eq_some_iff.1 hg).1
theorem elems_seq (n : Nat) (hn : 1 ≤ n) (ls : List (List CellD)) (lo b0 B lp : Nat) (wl W : World) (hE : ElemsAt wl lo b0 ls) (hB : Below wl.heap.size wl W) (hBB : wl.heap.size ≤ B) (hl : ∀ l ∈ ls, l.length ≤ 1024) (hlen : ls.length ≤ 1024) :
    SeqMem Fence.wide n Tryd.prog 40 #[.pointer (some ⟨b0, 0, none⟩)] lp encZ (GY W.heap.size ls) (KpY (fun k => k = B)) (SY W.heap.size ls) (SpY W.heap.size ls) W := by
  obtain ⟨A, c, vs, h1, h2, h3⟩ := hE
  refine elems1_mem n hn ls b0 A c lp _ W (cell_below hB h1) (fun j hj => ?_) hl (by omega)
  obtain ⟨Aj, cj, e, p⟩ := h3.2 j hj
  obtain ⟨g, rfl, hg, _⟩ := row_form h2 (by omega)
  have hc := row_cell1 h2 e
  have hgl : g < wl.heap.size := cell_lt hc
  refine ⟨g, Aj, cj, rfl, by omega, cell_below hB hc, p.reads.1, p.reads.2.below hB, fun b o e => ?_⟩
  subst e
  have := rowIs_lt p
  omega
set_option maxRecDepth 100000 in
set_option maxHeartbeats 8000000 in
theorem oparts_in (t : List CellD) (i most : Int) (A : Option Addr) (c : Nat) (w : World) (hr : Reads w A t) (hf : Fine t) (hc : t.length ≤ c) (hm : -9223372036854775808 ≤ most ∧ most < 9223372036854775808) (hT : Tabs w) :
    CallsIn Fence.wide 6 Tryd.prog 3 #[.slice A t.length c, .int .i64 i, .int .i64 most] w fun e V => e = .returned (.bool true) ∧ Below w.heap.size w V := by
  obtain ⟨i0, hi, hz0, hz1, hz2'⟩ := info_parts sl_info
  have h16 : 1 ≤ 6 := by omega
  have HR := Lib.hid hr
  have HF := Lib.hid hf
  have HT := Lib.hid hT
  have hfl := hf.len
  have hlt := hf.lim
  clear hr hf hT
  refine callsIn_of_wp_marks Tryd.func3 rfl trivial ?_ rfl
  refine wpIn_wide.2 ?_
  simp only [Tryd.ntmps3, List.size_toArray, List.length_cons, List.length_nil, Nat.reduceAdd, Nat.reduceSub, Array.replicate_succ, Array.replicate_zero, List.push_toArray, List.append_toArray, List.nil_append, List.cons_append]
  have heq := fun (W : World) fn first captured => run_eql_func_nil2 (P := Tryd.prog) W Tryd.underlying37 fn first captured
  have hneq := fun (W : World) fn first captured => run_neq_func_nil2 (P := Tryd.prog) W Tryd.underlying37 fn first captured
  have heqn := fun (W : World) => run_eql_nils (P := Tryd.prog) W Tryd.underlying37
  have hneqn := fun (W : World) => run_neq_nils (P := Tryd.prog) W Tryd.underlying37
  go_wp2_with fail
  refine (lent_any t A c _ HR.out (by omega)).mono ?_
  rintro e w1 ⟨A1, c1, rfl, hL, hB1⟩
  have HL := Lib.hid hL
  have HB1 := Lib.hid hB1
  have HC1 := Lib.hid hL.lenCap
  clear hL hB1
  go_wp2_with fail
  refine (opart_any t i A1 c1 _ HL.out.reads HF.out HC1.out (Utf8Tabs_below HT.out HB1.out)).mono ?_
  rintro e w2 ⟨A2, c2, rfl, h2⟩
  have H2 := Lib.hid h2
  have hb2 := h2.bel
  have HBW2 := Lib.hid (below_then HB1.out hb2)
  clear h2
  go_wp2_with fail
  refine (rpart_any t i A c _ (HR.out.below HBW2.out) HF.out hc).mono ?_
  rintro e w3 ⟨A3, c3, rfl, hq3, hr3, hb3⟩
  have hb13 := below_then hb2 hb3
  have HR3 := Lib.hid hr3
  have HP3 := Lib.hid (H2.out.reads.below hb3)
  have HW3 := Lib.hid (row_below H2.out.row hb3)
  have hz2 := hb2.size
  have hz3 := hb3.size
  clear hr3 hb3 hb2 H2 HBW2
  have hps := partE_small t i
  obtain ⟨p, hp⟩ : ∃ p, partE t i = p := ⟨_, rfl⟩
  rw [hp] at hps HR3 HP3 HW3 hq3 ⊢
  have hz : (p.2 != p.2) = false := by simp
  clear hp
  go_wp2_with fail
  refine (rsame_self p.1 _ _ rfl rfl A2 A3 c2 c3 _ HP3.out HR3.out (by omega)).mono ?_
  rintro e w4 ⟨rfl, hb4⟩
  have hb14 := below_then hb13 hb4
  have HW4 := Lib.hid (row_below HW3.out hb4)
  have hz4 := hb4.size
  clear hb13 hb4 HW3 HP3 HR3
  go_wp2_with fail
  refine (spoil_any A2 p.1.length c2 w1.heap.size (encs p.1) _ HW4.out (by omega) (by omega)).mono ?_
  rintro e w5 ⟨rfl, hg5⟩
  have hb15 : Below w1.heap.size w1 w5 := hb14.grown hg5 hb14.size (fun q hq => row_base HW4.out q hq)
  have HB15 := Lib.hid hb15
  have HBW5 := Lib.hid (below_then HB1.out hb15)
  clear hb14 hg5 HW4 hb15 hz hps hq3 hz2 hz3 hz4
  go_wp2_with fail
  refine (rparts_any t A c _ (HR.out.below HBW5.out) HF.out hc).mono ?_
  rintro e w6 ⟨A6, c6, rfl, h6, hb6⟩
  obtain ⟨P, hP⟩ : ∃ P, (partsR t).length = P := ⟨_, rfl⟩
  rw [hP]
  have HP := Lib.hid hP
  clear hP
  have HB16 := Lib.hid (below_then HB15.out hb6)
  have HBW6 := Lib.hid (below_then HBW5.out hb6)
  have H6 := Lib.hid h6
  have hz16 := HB16.out.size
  clear h6 hb6 HB15 HBW5
  go_wp2_with fail
  refine (met_any t 0 A1 c1 _ (HL.out.reads.below HB16.out) HF.out (Utf8Tabs_below HT.out HBW6.out)).mono ?_
  rintro e w7 ⟨v7, ys, rfl, h7, hb7⟩
  obtain ⟨hro7, hy7, ha7, hs7⟩ := h7
  obtain ⟨A7, c7, rfl⟩ := row_slice hro7
  have hm7 : ys.map Yld.l = partsR t := by
    rcases hs7 with ⟨e, _⟩ | ⟨_, e, k⟩
    · exact e
    · omega
  have hn7 : ys.length = P := by rw [← HP.out, ← hm7]; simp
  rw [hn7]
  have HN7 := Lib.hid hn7
  have HM7 := Lib.hid hm7
  have HRO7 := Lib.hid hro7
  have HY7 := Lib.hid hy7
  have HA7 := Lib.hid ha7
  have HB7 := Lib.hid hb7
  have H67 := Lib.hid (H6.out.below hb7)
  have hz7 := hb7.size
  have hlen : P ≤ 255 := by have := partsR_len t; rw [HP.out] at this; exact this
  clear hs7 hro7 hy7 ha7 hb7 hm7 hn7
  go_wp2_with fail
  refine (sameAll_any P (partsR t) HP.out A7 A6 c7 c6 _ (by rw [← HM7.out]; exact YRows.reads2 HRO7.out HY7.out) H67.out.reads (fun l hl => by have := partsR_small l hl; omega) (by omega)).mono ?_
  rintro e w8 ⟨rfl, hb8⟩
  have hB8 := below_then HB7.out hb8
  have HRO8 := Lib.hid (row_below HRO7.out hb8)
  have HY8 := Lib.hid (HY7.out.below hb8)
  have HB18 := Lib.hid (below_then HB16.out hB8)
  have HBW8 := Lib.hid (below_then HBW6.out hB8)
  have H68 := Lib.hid (H67.out.below hb8)
  have hz8 := hb8.size
  clear hb8 hB8 HB7 HRO7 HY7 HB16 HBW6 H67 H6
  go_wp2_with fail
  refine (count3_any most _ hm).mono ?_
  rintro e w8' ⟨r, hr3, rfl, rfl⟩
  have hwr : IntKind.i64.wrap (1 + (r : Int)) = 1 + (r : Int) := by rw [IntKind.wrap_i64]; omega
  go_wp2_with fail
  refine (met_any t (1 + (r : Int)) A1 c1 _ (HL.out.reads.below HB18.out) HF.out (Utf8Tabs_below HT.out HBW8.out)).mono ?_
  rintro e w9 ⟨v9, zs, rfl, h9, hb9⟩
  obtain ⟨hro9, hy9, ha9, hs9⟩ := h9
  obtain ⟨A9, c9, rfl⟩ := row_slice hro9
  have HRO9 := Lib.hid hro9
  have HY9 := Lib.hid hy9
  have HB19 := Lib.hid (below_then HB18.out hb9)
  have HBW9 := Lib.hid (below_then HBW8.out hb9)
  have H69 := Lib.hid (H68.out.below hb9)
  have HROy := Lib.hid (row_below HRO8.out hb9)
  have HYy := Lib.hid (HY8.out.below hb9)
  have hz9 := hb9.size
  -- how many were met, and which
  obtain ⟨Z, hZ⟩ : ∃ Z, zs.length = Z := ⟨_, rfl⟩
  rw [hZ]
  have HZ := Lib.hid hZ
  have hzs : zs.map Yld.l = (partsR t).take Z ∧ (P < 1 + r ∧ Z = P ∨ 1 + r ≤ P ∧ Z = 1 + r) := by
    have hp := HP.out
    rcases hs9 with ⟨e, k⟩ | ⟨e, k, _⟩
    · have hl : zs.length = (partsR t).length := by rw [← e]; simp
      refine ⟨?_, ?_⟩
      · rw [e, ← hZ, hl, List.take_length]
      · rcases k with k | k <;> omega
    · have hl := e.length_le
      rw [List.length_map] at hl
      refine ⟨?_, by omega⟩
      have := List.prefix_iff_eq_take.1 e
      rw [List.length_map, hZ] at this
      exact this
  obtain ⟨hzm, hzc⟩ := hzs
  have HZM := Lib.hid hzm
  have hlen9 : P ≤ c6 := by obtain ⟨vs, g1, g2⟩ := H69.out; have := row_cap g1; rw [HP.out] at this; exact this
  clear hro9 hy9 ha9 hs9 hb9 hzm HRO8 HY8 HB18 HBW8 H68
  have HSM := Lib.hid (show ∀ l ∈ (partsR t).take Z, l.length ≤ 1000000000000000 from fun l hl => by have := partsR_small l (List.mem_of_mem_take hl); omega)
  have HTK := Lib.hid (show Reads2 w9 A6 ((partsR t).take Z) from fun j hj => by
    rw [List.length_take] at hj
    have := H69.out.reads j (by omega)
    rw [List.getElem_take]
    exact this)
  have HZ9 := Lib.hid (show Reads2 w9 A9 ((partsR t).take Z) by rw [← HZM.out]; exact YRows.reads2 HRO9.out HY9.out)
  have HLZ := Lib.hid (show ((partsR t).take Z).length = Z by rw [← HZM.out, List.length_map]; exact hZ)
  clear hZ
  go_upto_if 76 with (fail)
  go_cut [15] from 73 to 78 (fun s15 wx => s15 = .int .i64 (Z : Int) ∧ wx = w9)
  case first =>
    rcases hzc with ⟨h1, h2⟩ | ⟨h1, h2⟩
    · have hi : (P : Int) < 1 + (r : Int) := by omega
      have H2 := Lib.hid h2
      clear h2 h1
      go_wp2_with fail
      go_meet
      exact ⟨by rw [H2.out], rfl⟩
    · have hi : ¬ (P : Int) < 1 + (r : Int) := by omega
      have H2 := Lib.hid h2
      clear h2 h1
      go_wp2_with fail
      go_meet
      exact ⟨by rw [H2.out]; simp, rfl⟩
  case rest =>
    obtain ⟨rfl, rfl⟩ := hcut
    have z1 : (Z : Int) ≤ (c6 : Int) := by omega
    have z2 : Z ≤ P := by omega
    go_wp2_with fail
    refine (sameAll_any Z ((partsR t).take Z) HLZ.out A9 A6 c9 c6 _ HZ9.out HTK.out HSM.out (by omega)).mono ?_
    rintro e w10 ⟨rfl, hb10⟩
    have HB110 := Lib.hid (below_then HB19.out hb10)
    have HBW10 := Lib.hid (below_then HBW9.out hb10)
    have HRO10 := Lib.hid (row_below HROy.out hb10)
    have HY10 := Lib.hid (HYy.out.below hb10)
    have hz10 := hb10.size
    clear hb10 HB19 HBW9 HROy HYy HRO9 HY9 H69 HZ9 HTK HSM HLZ HZM
    go_wp2_with fail
    refine (spoilRow_any ys (.slice A7 P c7) w6.heap.size w6.heap.size w10.heap.size _ (by have := HRO10.out; rw [HN7.out] at this ⊢; exact this) HY10.out HA7.out (ys_small HM7.out (fun l hl => partsR_small l hl)) (by rw [HN7.out]; omega) (by omega) HY10.out.high).mono ?_
    rintro e w11 ⟨rfl, hs11⟩
    have HB111 := Lib.hid (HB110.out.trans (hs11.bel.mono hz16))
    have HBW11 := Lib.hid (below_then HB1.out HB111.out)
    clear HB110 HBW10 HRO10 HY10 hs11
    go_wp2_with fail
    refine (oelems_any t A1 c1 _ (HL.out.reads.below HB111.out) HF.out HC1.out (Utf8Tabs_below HT.out HBW11.out)).mono ?_
    rintro e w12 ⟨hk12, hb12⟩
    have HB112 := Lib.hid (below_then HB111.out hb12)
    have HBW12 := Lib.hid (below_then HBW11.out hb12)
    have HLS := Lib.hid (fun l hl => elemsE_small (t := t) l hl : ∀ l ∈ (elemsE t).1, l.length ≤ 1024)
    have HLN := Lib.hid (elemsE_len t)
    have HNO := Lib.hid (fun h => elemsE_no (t := t) h : (elemsE t).2 ≠ 0 → (elemsE t).1 = [])
    have hrel := fun w (h : Reads w A t) => relems_any t A c w h HF.out hc
    have HREL := Lib.hid hrel
    clear hrel
    obtain ⟨ls, hls⟩ : ∃ ls, (elemsE t).1 = ls := ⟨_, rfl⟩
    obtain ⟨er, her⟩ : ∃ er, (elemsE t).2 = er := ⟨_, rfl⟩
    rw [hls, her] at HNO hk12
    rw [hls] at HLS HLN
    rw [hls, her] at HREL
    obtain ⟨LE, hLE⟩ : ∃ n, ls.length = n := ⟨_, rfl⟩
    have HLE := Lib.hid hLE
    have hx : (er != er) = false := by simp
    clear hls her hz7 hz8 hz9 hz10 hz16 HN7 HM7 HA7 HP HZ hzc hlen9 z1 z2 hLE
    rcases hk12 with ⟨hne, rfl⟩ | ⟨h0, b0, hb0, rfl, hEl⟩
    · have hx2 : (er != 0) = true := by rw [bne_iff_ne]; exact hne
      clear hne
      go_wp2_with fail
      refine (HREL.out _ (HR.out.below HBW12.out)).mono ?_
      rintro e w13 ⟨A13, c13, rfl, hS13, hb13⟩
      rw [HLE.out]
      have HB113 := Lib.hid (below_then HB112.out hb13)
      have HBW13 := Lib.hid (below_then HBW12.out hb13)
      clear hb13 hS13 hb12 HB112 HBW12 HB111 HBW11
      go_wp2_with fail
      refine wp_loop_rounds 1 ?_
      rw [rounds_succ]
      go_wp2_with fail
      refine (kept_any t A1 A w.heap.size c1 c _ (HL.out.below HB113.out) (HR.out.below HBW13.out) (by omega)).mono ?_
      rintro e w14 ⟨rfl, hb14⟩
      have HBW14 := Lib.hid (below_then HBW13.out hb14)
      clear hb14
      go_wp2_with fail
      refine (known5_any _ (Utf8Tabs_below HT.out HBW14.out)).mono ?_
      rintro e w15 ⟨rfl, hb15⟩
      have HBW15 := Lib.hid (below_then HBW14.out hb15)
      clear hb15
      go_wp2
      exact ⟨.bool true, by simp [results, Tryd.results3, go_sem], rfl, HBW15.out⟩
    · subst h0
      have HEl := Lib.hid hEl
      have HB0 := Lib.hid hb0
      clear hEl hb0
      go_wp2_with fail
      refine (HREL.out _ (HR.out.below HBW12.out)).mono ?_
      rintro e w13 ⟨A13, c13, rfl, hS13, hb13⟩
      rw [HLE.out]
      have HB113 := Lib.hid (below_then HB112.out hb13)
      have HBW13 := Lib.hid (below_then HBW12.out hb13)
      have HS13 := Lib.hid hS13
      have HB1213 := Lib.hid hb13
      clear hb13 hS13 hb12 HB112 HBW12 HB111 HBW11
      go_wp2_with fail
      refine wp_loop_rounds 3 ?_
      rw [rounds_succ]
      go_wp2_with fail
      -- ROUNDS
      -- ROUND 1
      have HBW1 := Lib.hid (below_then HBW13.out (Below.refl w13.heap.size w13))
      have hBA1 := below_alloc' (Below.refl w13.heap.size w13) (.cells #[.slice none 0 0] 29)
      have BX1 := Lib.hid (Boxed.new w13 29 (.slice none 0 0))
      have hzA1 : (w13.alloc (.cells #[.slice none 0 0] 29)).heap.size = w13.heap.size + 1 := by simp
      have hseq1 := elems_seq 5 (by omega) ls w11.heap.size b0 w13.heap.size ((w13.alloc (.cells #[.slice none 0 0] 29)).heap.size + 1) w12 (w13.alloc (.cells #[.slice none 0 0] 29)) HEl.out (below_then (below_then HB1213.out (Below.refl w13.heap.size w13)) hBA1) (by have := HB1213.out.size; have := (Below.refl w13.heap.size w13).size; omega) HLS.out HLN.out
      have HBA1 := Lib.hid hBA1
      clear hBA1
      obtain ⟨W21, hW21⟩ : ∃ W, w13.alloc (.cells #[.slice none 0 0] 29) = W := ⟨_, rfl⟩
      rw [hW21] at hseq1 hzA1 HBA1 BX1 ⊢
      have hbz1 : (0 : Nat) = 0 := rfl
      obtain ⟨B1, hB1⟩ : ∃ B, w13.heap.size = B := ⟨_, rfl⟩
      rw [hB1] at hseq1 hzA1 BX1 ⊢
      have hltB1 : B1 < W21.heap.size := by omega
      have hleB1 : w13.heap.size ≤ B1 := by omega
      clear hzA1 hW21 hB1 hbz1
      refine (wpIn_wide (n := 6)).1 ?_
      apply range_mem1 (F := Fence.wide) (N := 137) rfl (by decide) rfl h16 (gf := 40) (lb := #[.pointer (some ⟨b0, 0, none⟩)]) rfl trivial (enters_of Tryd.func40 (by kernel_rfl) rfl) hseq1
        (fun pre W => Gath W W21.heap.size B1 pre ∧ Below w13.heap.size w13 W)
        (fun cd pre W => False)
      case gI => exact fun pre W V h hB => ⟨h.1.below hB, h.2.trans (hB.mono h.2.size)⟩
      case sI => exact fun pre W r o hl h => ⟨h.1.putObj o hl rfl (by omega), h.2.trans (belowK_b (w := w13) (Nat.le_refl _) W _ _ o (by omega) hl rfl rfl)⟩
      case sIx => exact fun cd pre W r o hl h => h.elim
      case sG => exact fun pre x W r o hl h => ⟨h.ix, h.sz1, by simpa [World.putObj] using h.sz2, h.same, h.ls, fun y hy => ownsRow_putObj (h.rows y hy) o hl rfl, h.apart⟩
      case sS => exact fun xs W r o hl h => ⟨h.1, fun y hy => ownsRow_putObj (h.2.1 y hy) o hl rfl, h.2.2⟩
      case sSp => exact fun xs W r o hl h => ⟨h.1, fun y hy => ownsRow_putObj (h.2.1 y hy) o hl rfl, h.2.2⟩
      case hK => exact fun xs W V r r2 o' hl hl2 h => kpY_loop h hl hl2 o'
      case h0 => exact ⟨⟨_, BX1.out, row_nil _ _ _ _, fun _ => rfl, fun e => absurd rfl e⟩, HBA1.out⟩
      case hstop => exact fun c pre W hS h => h.elim
      case hbody =>
        rintro pre x W ⟨hga, hB⟩ hG
        obtain ⟨v, hv, hrow, hs1, hs2⟩ := hga.row hG
        obtain ⟨Av, cv, rfl⟩ := row_slice hrow
        have hlen : pre.length + 1 ≤ 1024 := by
          have h1 := hG.ls.length_le
          have h2 := HLN.out
          simp at h1; omega
        obtain ⟨s, hs⟩ : ∃ s, szOf (pre ++ [x]) = s := ⟨_, rfl⟩
        rw [hs] at hrow hs1 hs2
        have HSZ := Lib.hid hs
        have HBw := Lib.hid hB
        have HV := Lib.hid hv
        have HROW := Lib.hid hrow
        have hc := hv.cell
        clear hga hG hs hB hv hrow
        gi_wp2_with (gi_at_builtin; refine wpListIn_append_own _ rfl _ _ 29 rfl s 22 i0 (.slice none 0 0) 1 24 Tryd.underlying29 hi hz0 hz1 hz2' rfl (by decide) _ _ _ rfl (HROW.out.alloc _) ⟨W.heap.size, 0, none⟩ 1 1 [x.val] rfl rfl (cell_one_new _ _ _) (by simp [Value.oneCell', Yld.val]) (by unfold maxLen; omega) (by omega) (by simp; omega) ?_; intro v' w1' hown' hgrow _; obtain ⟨g', cap', rfl⟩ := ownsRow_succ hown'; have HST := Lib.hid (gath_step (Bx := fun k => k = B1) HSZ.out hs1 hs2 (by omega) rfl HV.out HROW.out hown' hgrow); have hc1 := HST.out.1.cell; have hf1 := HST.out.1.frozen)
        obtain ⟨_, _, k3, k4, k5, k6⟩ := HST.out
        exact ⟨⟨k5 _ (by omega) (by omega), k5 _ (by omega) (by omega)⟩, k4, k3, HBw.out.trans (k6 _ (by omega))⟩
      case hdone =>
        rintro xs W hS ⟨hga, hB⟩ hK
        obtain ⟨v, hv, hrow, hnil, hne⟩ := hga
        obtain ⟨Av1, cv1, rfl⟩ := row_slice hrow
        have hxl : xs.length = LE := by have := congrArg List.length hS.1; rw [List.length_map] at this; rw [this, HLE.out]
        rw [hxl] at hv hrow
        have hc := hv.cell
        have HRW1 := Lib.hid hrow
        have HS1 := Lib.hid hS
        have HB1 := Lib.hid hB
        have HK1 := Lib.hid hK
        have HXL1 := Lib.hid hxl
        have HV1 := Lib.hid hv
        have HE1 := Lib.hid (HS13.out.below (below_then (Below.refl w13.heap.size w13) hB))
        have hWz := hB.size
        have hKlt := (Array.getElem?_eq_some_iff.1 hK).1
        clear hrow hnil hne hS hB hK hxl hv
        go_wp2_with fail
        refine (sameAll_any LE ls HLE.out Av1 A13 cv1 c13 _ (by rw [← HS1.out.1]; exact YRows.reads2 (by rw [HXL1.out]; exact HRW1.out) HS1.out.2.1) HE1.out.reads (fun l hl => by have := HLS.out l hl; omega) (by have := HLN.out; rw [HLE.out] at this; omega)).mono ?_
        rintro e wa1 ⟨rfl, hba1⟩
        have HBAA1 := Lib.hid (HB1.out.trans (hba1.mono hWz))
        have HRO1 := Lib.hid (row_below HRW1.out hba1)
        have HY1 := Lib.hid (HS1.out.2.1.below hba1)
        have HD1 := Lib.hid ((hba1.block _ hKlt).trans HK1.out)
        have hc1 := cell_below hba1 hc
        have haz1 := hba1.size
        clear hba1 hc
        go_wp2_with fail
        refine (spoilRow_any xs (.slice Av1 LE cv1) _ (W21.heap.size + 1) wa1.heap.size _ (by have := HRO1.out; rw [HXL1.out]; exact this) (HY1.out.past HD1.out rfl) HS1.out.2.2 (ys_small HS1.out.1 HLS.out) (by rw [HXL1.out]; have := HLN.out; rw [HLE.out] at this; omega) (by omega) HY1.out.high).mono ?_
        rintro e ws1 ⟨rfl, hs1⟩
        have HBS1 := Lib.hid (HBAA1.out.trans (hs1.bel.mono (by omega)))
        have HDD1 := Lib.hid ((hs1.bel.block _ (by omega)).trans HD1.out)
        have hl1 : w13.heap.size ≤ W21.heap.size := by omega
        have hlt1 : W21.heap.size < ws1.heap.size := (Array.getElem?_eq_some_iff.1 HDD1.out).1
        clear hs1 hc1 haz1 HD1 HY1 HRO1 HBAA1 HE1 HV1 HXL1 HS1 HRW1 HK1 HB1 hKlt hWz
        go_wp2_with fail
        rw [rounds_succ]
        go_wp2_with fail
        -- ROUND 2
        have HBW2 := Lib.hid (below_then HBW13.out HBS1.out)
        have hBA2 := below_alloc' (Below.refl ws1.heap.size ws1) (.cells #[.slice none 0 0] 29)
        have BX2 := Lib.hid (Boxed.new ws1 29 (.slice none 0 0))
        have hzA2 : (ws1.alloc (.cells #[.slice none 0 0] 29)).heap.size = ws1.heap.size + 1 := by simp
        have hseq2 := elems_seq 5 (by omega) ls w11.heap.size b0 ws1.heap.size ((ws1.alloc (.cells #[.slice none 0 0] 29)).heap.size + 1) w12 (ws1.alloc (.cells #[.slice none 0 0] 29)) HEl.out (below_then (below_then HB1213.out HBS1.out) hBA2) (by have := HB1213.out.size; have := HBS1.out.size; omega) HLS.out HLN.out
        have HBA2 := Lib.hid hBA2
        clear hBA2
        obtain ⟨W22, hW22⟩ : ∃ W, ws1.alloc (.cells #[.slice none 0 0] 29) = W := ⟨_, rfl⟩
        rw [hW22] at hseq2 hzA2 HBA2 BX2 ⊢
        have hbz2 : (0 : Nat) = 0 := rfl
        obtain ⟨B2, hB2⟩ : ∃ B, ws1.heap.size = B := ⟨_, rfl⟩
        rw [hB2] at hseq2 hzA2 BX2 ⊢
        have hltB2 : B2 < W22.heap.size := by omega
        have hleB2 : ws1.heap.size ≤ B2 := by omega
        clear hzA2 hW22 hB2 hbz2
        refine (wpIn_wide (n := 6)).1 ?_
        apply range_mem1 (F := Fence.wide) (N := 137) rfl (by decide) rfl h16 (gf := 40) (lb := #[.pointer (some ⟨b0, 0, none⟩)]) rfl trivial (enters_of Tryd.func40 (by kernel_rfl) rfl) hseq2
          (fun pre W => Gath W W22.heap.size B2 pre ∧ Below ws1.heap.size ws1 W)
          (fun cd pre W => False)
        case gI => exact fun pre W V h hB => ⟨h.1.below hB, h.2.trans (hB.mono h.2.size)⟩
        case sI => exact fun pre W r o hl h => ⟨h.1.putObj o hl rfl (by omega), h.2.trans (belowK_b (w := ws1) (Nat.le_refl _) W _ _ o (by omega) hl rfl rfl)⟩
        case sIx => exact fun cd pre W r o hl h => h.elim
        case sG => exact fun pre x W r o hl h => ⟨h.ix, h.sz1, by simpa [World.putObj] using h.sz2, h.same, h.ls, fun y hy => ownsRow_putObj (h.rows y hy) o hl rfl, h.apart⟩
        case sS => exact fun xs W r o hl h => ⟨h.1, fun y hy => ownsRow_putObj (h.2.1 y hy) o hl rfl, h.2.2⟩
        case sSp => exact fun xs W r o hl h => ⟨h.1, fun y hy => ownsRow_putObj (h.2.1 y hy) o hl rfl, h.2.2⟩
        case hK => exact fun xs W V r r2 o' hl hl2 h => kpY_loop h hl hl2 o'
        case h0 => exact ⟨⟨_, BX2.out, row_nil _ _ _ _, fun _ => rfl, fun e => absurd rfl e⟩, HBA2.out⟩
        case hstop => exact fun c pre W hS h => h.elim
        case hbody =>
          rintro pre x W ⟨hga, hB⟩ hG
          obtain ⟨v, hv, hrow, hs1, hs2⟩ := hga.row hG
          obtain ⟨Av, cv, rfl⟩ := row_slice hrow
          have hlen : pre.length + 1 ≤ 1024 := by
            have h1 := hG.ls.length_le
            have h2 := HLN.out
            simp at h1; omega
          obtain ⟨s, hs⟩ : ∃ s, szOf (pre ++ [x]) = s := ⟨_, rfl⟩
          rw [hs] at hrow hs1 hs2
          have HSZ := Lib.hid hs
          have HBw := Lib.hid hB
          have HV := Lib.hid hv
          have HROW := Lib.hid hrow
          have hc := hv.cell
          clear hga hG hs hB hv hrow
          gi_wp2_with (gi_at_builtin; refine wpListIn_append_own _ rfl _ _ 29 rfl s 22 i0 (.slice none 0 0) 1 24 Tryd.underlying29 hi hz0 hz1 hz2' rfl (by decide) _ _ _ rfl (HROW.out.alloc _) ⟨W.heap.size, 0, none⟩ 1 1 [x.val] rfl rfl (cell_one_new _ _ _) (by simp [Value.oneCell', Yld.val]) (by unfold maxLen; omega) (by omega) (by simp; omega) ?_; intro v' w1' hown' hgrow _; obtain ⟨g', cap', rfl⟩ := ownsRow_succ hown'; have HST := Lib.hid (gath_step (Bx := fun k => k = B2) HSZ.out hs1 hs2 (by omega) rfl HV.out HROW.out hown' hgrow); have hc1 := HST.out.1.cell; have hf1 := HST.out.1.frozen)
          obtain ⟨_, _, k3, k4, k5, k6⟩ := HST.out
          exact ⟨⟨k5 _ (by omega) (by omega), k5 _ (by omega) (by omega)⟩, k4, k3, HBw.out.trans (k6 _ (by omega))⟩
        case hdone =>
          rintro xs W hS ⟨hga, hB⟩ hK
          obtain ⟨v, hv, hrow, hnil, hne⟩ := hga
          obtain ⟨Av2, cv2, rfl⟩ := row_slice hrow
          have hxl : xs.length = LE := by have := congrArg List.length hS.1; rw [List.length_map] at this; rw [this, HLE.out]
          rw [hxl] at hv hrow
          have hc := hv.cell
          have HRW2 := Lib.hid hrow
          have HS2 := Lib.hid hS
          have HB2 := Lib.hid hB
          have HK2 := Lib.hid hK
          have HXL2 := Lib.hid hxl
          have HV2 := Lib.hid hv
          have HE2 := Lib.hid (HS13.out.below (below_then HBS1.out hB))
          have hWz := hB.size
          have hKlt := (Array.getElem?_eq_some_iff.1 hK).1
          clear hrow hnil hne hS hB hK hxl hv
          go_wp2_with fail
          refine (sameAll_any LE ls HLE.out Av2 A13 cv2 c13 _ (by rw [← HS2.out.1]; exact YRows.reads2 (by rw [HXL2.out]; exact HRW2.out) HS2.out.2.1) HE2.out.reads (fun l hl => by have := HLS.out l hl; omega) (by have := HLN.out; rw [HLE.out] at this; omega)).mono ?_
          rintro e wa2 ⟨rfl, hba2⟩
          have HBAA2 := Lib.hid (HB2.out.trans (hba2.mono hWz))
          have HRO2 := Lib.hid (row_below HRW2.out hba2)
          have HY2 := Lib.hid (HS2.out.2.1.below hba2)
          have HD2 := Lib.hid ((hba2.block _ hKlt).trans HK2.out)
          have hc2 := cell_below hba2 hc
          have haz2 := hba2.size
          clear hba2 hc
          go_wp2_with fail
          refine (spoilRow_any xs (.slice Av2 LE cv2) _ (W22.heap.size + 1) wa2.heap.size _ (by have := HRO2.out; rw [HXL2.out]; exact this) (HY2.out.past HD2.out rfl) HS2.out.2.2 (ys_small HS2.out.1 HLS.out) (by rw [HXL2.out]; have := HLN.out; rw [HLE.out] at this; omega) (by omega) HY2.out.high).mono ?_
          rintro e ws2 ⟨rfl, hs2⟩
          have HBS2 := Lib.hid (HBAA2.out.trans (hs2.bel.mono (by omega)))
          have HDD2 := Lib.hid ((hs2.bel.block _ (by omega)).trans HD2.out)
          have hl2 : ws1.heap.size ≤ W22.heap.size := by omega
          have hlt2 : W22.heap.size < ws2.heap.size := (Array.getElem?_eq_some_iff.1 HDD2.out).1
          clear hs2 hc2 haz2 HD2 HY2 HRO2 HBAA2 HE2 HV2 HXL2 HS2 HRW2 HK2 HB2 hKlt hWz
          go_wp2_with fail
      -- END ROUNDS
          rw [rounds_succ]
          go_wp2_with fail
          have HBZ := Lib.hid (HBS1.out.trans (HBS2.out.mono HBS1.out.size))
          have HB1Z := Lib.hid (below_then HB113.out HBZ.out)
          have HBWZ := Lib.hid (below_then HBW13.out HBZ.out)
          refine (kept_any t A1 A w.heap.size c1 c _ (HL.out.below HB1Z.out) (HR.out.below HBWZ.out) (by omega)).mono ?_
          rintro e w14 ⟨rfl, hb14⟩
          have HBW14 := Lib.hid (below_then HBWZ.out hb14)
          have HD1 := Lib.hid ((hb14.block _ (by have := HBS2.out.size; omega)).trans ((HBS2.out.block _ hlt1).trans HDD1.out))
          have HD2 := Lib.hid ((hb14.block _ hlt2).trans HDD2.out)
          clear hb14
          go_wp2_with fail
          refine (known5_any _ (Utf8Tabs_below HT.out HBW14.out)).mono ?_
          rintro e w15 ⟨rfl, hb15⟩
          have HBW15 := Lib.hid (below_then HBW14.out hb15)
          have HF1' := Lib.hid ((hb15.block _ ((Array.getElem?_eq_some_iff.1 HD1.out).1)).trans HD1.out)
          have HF2' := Lib.hid ((hb15.block _ ((Array.getElem?_eq_some_iff.1 HD2.out).1)).trans HD2.out)
          clear hb15
          go_wp2
          have hneD : W21.heap.size ≠ W22.heap.size := by have := hlt1; have := hl2; omega
          have HG1 : (w15.putObj W22.heap.size (.deferred none)).heap[W21.heap.size]? = some (.deferred (some [])) := (World.putObj_heap_other hneD).trans HF1'.out
          have hz1 := HBW13.out.size
          have hBZ : Below w.heap.size w ((w15.putObj W22.heap.size (.deferred none)).putObj W21.heap.size (.deferred none)) := (HBW15.out.trans (belowK_b (w := w) (Nat.le_refl _) _ _ _ _ (by omega) HF2'.out rfl rfl)).trans (belowK_b (w := w) (Nat.le_refl _) _ _ _ _ (by omega) HG1 rfl rfl)
          refine leaves_ret (leaves_mark HF2'.out (leaves_mark HG1 (leaves_end (v := .bool true) ?_ ⟨rfl, hBZ⟩)))
          simp [results, Tryd.results3, go_sem]
theorem oparts_row (A : Option Addr) (c : Nat) (t : List CellD) (i most : Int) (w : World) (hT : Tabs w) (hc : t.length ≤ c) (hr : Reads w A t) (hs : ∀ j (h : j < t.length), (t[j]).text.size ≤ 9223372036854775807) (hy : t.length * 32 ≤ 140737488351232) (hn : (Lit.int .i64 i).wf = true) (hm : (Lit.int .i64 most).wf = true) :
    Calls Tryd.prog 3 #[.slice A t.length c, .int .i64 i, .int .i64 most] w fun e w' => e = .returned (.bool true) ∧ Below w.heap.size w w' :=
  callsIn_wide.1 (oparts_in t i most A c w hr ⟨hy, hs⟩ hc (by simp [Lit.wf, IntKind.min, IntKind.max] at hm; simp [IntKind.signed, IntKind.bits] at hm; omega) hT)
end Go.Proofs.YtfeaolnklooanaaDoor.Tm
