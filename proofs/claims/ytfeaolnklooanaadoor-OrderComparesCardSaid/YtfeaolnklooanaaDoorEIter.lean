/- order.Elems: the iterator, which yields clones. -/
import Derived.Test.YtfeaolnklooanaaDoorPIter
namespace Go.Proofs.YtfeaolnklooanaaDoor.Tm
open Go.RowKit Go.Shelf
set_option linter.unusedVariables false
set_option linter.unusedSimpArgs false
attribute [local go_sem] Oper.semAt_some

theorem reads_same2 {w V : World} {A : Option Addr} {l : List CellD} (h : Reads w A l) (e : ∀ b o v, A = some ⟨b, o, none⟩ → w.cell? ⟨b, o, none⟩ = some v → V.heap[b]? = w.heap[b]?) : Reads V A l := fun j hj => by
  obtain ⟨b, o, e', hc⟩ := h j hj
  obtain ⟨b', o', e2, hc0⟩ := h 0 (by omega)
  obtain ⟨rfl, rfl⟩ : b = b' ∧ o = o' := by rw [e'] at e2; simpa using e2
  have e1 := e b o _ e' (by have := hc0.1; rwa [Nat.zero_mul, Nat.add_zero] at this)
  exact ⟨b, o, e', (cell_of_same (a := ⟨b, _, none⟩) e1).trans hc.1, (cell_of_same (a := ⟨b, _, none⟩) e1).trans hc.2.1, (cell_of_same (a := ⟨b, _, none⟩) e1).trans hc.2.2⟩
set_option maxRecDepth 100000 in
set_option maxHeartbeats 4000000 in
theorem elems1_mem (n : Nat) (hn : 1 ≤ n) (ls : List (List CellD)) (b0 : Nat) (A : Option Addr) (c lp : Nat) (Bx : Nat → Prop) (w : World) (hbox : w.cell? ⟨b0, 0, none⟩ = some (.slice A ls.length c))
    (hc : ∀ j (h : j < ls.length), ∃ g Aj cj, A = some ⟨g, 0, none⟩ ∧ ¬ Bx g ∧ w.cell? ⟨g, j, none⟩ = some (.slice Aj ls[j].length cj) ∧ ls[j].length ≤ cj ∧ Reads w Aj ls[j] ∧ (∀ b o, Aj = some ⟨b, o, none⟩ → ¬ Bx b))
    (hl : ∀ l ∈ ls, l.length ≤ 1024) (hlen : ls.length ≤ 1000000000000) :
    SeqMem Fence.wide n Tryd.prog 40 #[.pointer (some ⟨b0, 0, none⟩)] lp encZ (GY w.heap.size ls) (KpY Bx) (SY w.heap.size ls) (SpY w.heap.size ls) w := by
  intro J Jx hJg hY W hW hW2 h0
  have hF3 : Fence.wide.fn 36 := trivial
  have HJ := Lib.hid hJg
  have HY := Lib.hid hY
  have H0 := Lib.hid h0
  have HC := Lib.hid hc
  have HL := Lib.hid hl
  have HW := Lib.hid hW
  have p0 := cell_below hW hbox
  clear hJg hY h0 hbox hc hl hW
  refine callsIn_of_wp Tryd.func40 rfl trivial ?_ rfl
  simp only [Tryd.ntmps40, List.size_toArray, List.length_cons, List.length_nil, Nat.reduceAdd, Nat.reduceSub, Array.replicate_succ, Array.replicate_zero, List.push_toArray, List.append_toArray, List.nil_append, List.cons_append]
  gi_wp2
  gi_loopw [7] (fun i wr => ∃ (k : Nat) (pre : List Yld), k ≤ ls.length ∧ i = .int .i64 k ∧ Hid (pre.length = k) ∧ Hid (pre.map Yld.l = ls.take k) ∧ Hid (J pre wr) ∧ Hid (YRows w.heap.size pre wr) ∧ Hid (YApart pre) ∧ Hid (∀ y ∈ pre, y.sz = W.heap.size) ∧ Hid (∀ m o, m < W.heap.size → ¬ Bx m → W.heap[m]? = some o → o.isCells = true → wr.heap[m]? = some o) ∧ W.heap.size ≤ wr.heap.size) (fun i _ => ls.length - (intOf i).toNat)
  case atStart => exact ⟨0, [], Nat.zero_le _, rfl, rfl, rfl, H0, YRows.nil _ _, List.Pairwise.nil, fun y hy => absurd hy (List.not_mem_nil), fun _ _ _ _ h _ => h, Nat.le_refl _⟩
  case round =>
    obtain ⟨k, pre, hk, rfl, hlen, hmap, hJs, hrows, hap, hszs, hsame, hsw⟩ := hrel
    by_cases hlt : k < ls.length
    · obtain ⟨g, Aj, cj, hA2, hng, q0w, q1, q2, hnj⟩ := HC.out k hlt
      subst hA2
      have q0 := cell_below HW.out q0w
      have hgw : g < W.heap.size := cell_lt q0
      have q0' : wr.cell? ⟨g, k, none⟩ = some (.slice Aj ls[k].length cj) := (cell_of_same (a := ⟨g, k, none⟩) (same_cells hsame.out hgw hng q0)).trans q0
      have HRp := Lib.hid (reads_same2 (q2.below HW.out) (fun b o v e hc => same_cells hsame.out (cell_lt hc) (hnj b o e) hc))
      have hpj := HL.out _ (List.getElem_mem hlt)
      have TK := Lib.hid (List.take_succ_eq_append_getElem hlt)
      have hk1 : (k : Int) < (ls.length : Int) := by omega
      have hk0 : (0 : Int) ≤ (k : Int) := Int.natCast_nonneg _
      generalize ls[k] = part at *
      clear q0 q2 hng q0w
      gi_wp2_with (gi_at_call 36; refine (callsIn_wide.2 (clone_any part _ cj _ HRp.out (by omega))).mono ?_; rintro e w3 ⟨A3, c3, rfl, hown⟩; have hb3 := hown.bel; have hz3 := hb3.size; have HX := Lib.hid (show RowIs w3 wr.heap.size A3 c3 part from hown.row); have HRW := Lib.hid (hrows.out.below hb3); have HG := Lib.hid (show GY w.heap.size ls pre ⟨k, W.heap.size, A3, part, c3⟩ w3 from ⟨hlen.out.symm, by simp only; omega, by simp only; omega, hszs.out, by rw [List.map_append, hmap.out]; show _ ++ [part] <+: _; rw [← TK.out]; exact List.take_prefix _ _, HRW.out.snoc (row_mono HX.out (by omega)), hap.out.snoc hrows.out HX.out⟩); obtain ⟨fn, tmps, assign, body, hy, hR⟩ := HY.out pre ⟨k, W.heap.size, A3, part, c3⟩ w3 (HJ.out pre wr w3 hJs.out hb3) HG.out; have hy' : (Instr.yield lp #[.slice A3 part.length c3]).run Tryd.prog w3 = _ := hy)
      refine hR.mono ?_
      rintro e W3 (⟨rfl, hJ4, hk4⟩ | ⟨rfl, hJx4, hk4⟩)
      · have HJ4 := Lib.hid hJ4
        have hsz4 := hk4.size
        have hzs : ∀ y ∈ pre ++ [(⟨k, W.heap.size, A3, part, c3⟩ : Yld)], y.sz = W.heap.size := fun y hy => by
          rcases List.mem_append.1 hy with h1 | h1
          · exact hszs.out y h1
          · obtain rfl : y = _ := by simpa using h1
            rfl
        have hszo : szOf (pre ++ [(⟨k, W.heap.size, A3, part, c3⟩ : Yld)]) = W.heap.size := szOf_of hzs (by simp)
        have HZ := Lib.hid hzs
        have HSM := Lib.hid (show ∀ m o, m < W.heap.size → ¬ Bx m → W.heap[m]? = some o → o.isCells = true → W3.heap[m]? = some o from fun m o hm hx ho hc => hk4.blk m o (by rw [hszo]; exact hm) hx ((hb3.block m (by omega)).trans (hsame.out m o hm hx ho hc)) hc)
        have HRR := Lib.hid (HG.out.rows.kept hk4)
        have HAP := Lib.hid HG.out.apart
        have HLN := Lib.hid (show (pre ++ [(⟨k, W.heap.size, A3, part, c3⟩ : Yld)]).length = k + 1 by rw [List.length_append, hlen.out]; rfl)
        have HMP := Lib.hid (show (pre ++ [(⟨k, W.heap.size, A3, part, c3⟩ : Yld)]).map Yld.l = ls.take (k + 1) by rw [TK.out, List.map_append, hmap.out]; rfl)
        clear hJ4 hk4 hzs hszo hy hy' hR
        gi_wp2
        go_roundw
        case rel => exact ⟨k + 1, _, by omega, by go_num, HLN, HMP, HJ4, HRR, HAP, HZ, HSM, by omega⟩
        case measure => simp [intOf]; omega
      · have HJ4 := Lib.hid hJx4
        have HRR := Lib.hid (HG.out.rows.kept hk4)
        have HAP := Lib.hid HG.out.apart
        have HLS := Lib.hid HG.out.ls
        clear hJx4 hk4 hy hy' hR
        gi_wp2
        refine bodyPost_ret (results_none rfl _ _ _) rfl ?_
        exact ⟨⟨_, rfl⟩, .inr ⟨_, ⟨HLS.out, HRR.out, HAP.out⟩, HJ4.out⟩⟩
    · have hE : pre.map Yld.l = ls := by rw [hmap.out, List.take_of_length_le (by omega)]
      have HE := Lib.hid hE
      clear hE
      gi_wp2
      go_end0
      exact ⟨⟨_, rfl⟩, .inl ⟨pre, ⟨HE.out, hrows.out, hap.out⟩, hJs.out⟩⟩
end Go.Proofs.YtfeaolnklooanaaDoor.Tm
