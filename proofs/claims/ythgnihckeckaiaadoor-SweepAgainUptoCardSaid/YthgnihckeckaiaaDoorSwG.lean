/- The iterators All and Reach, for a consumer that writes. -/
import Derived.Test.YthgnihckeckaiaaDoorDpM
import Derived.Test.YthgnihckeckaiaaDoorSwL
namespace Go.Proofs.YthgnihckeckaiaaDoor.Tm
open Go.RowKit Go.Shelf
set_option linter.unusedVariables false
set_option linter.unusedSimpArgs false
attribute [local go_sem] Oper.semAt_some

/-- A row that the consumer does not own. -/
def RowFree (A : Option Addr) (cs : Nat → Prop) (w : World) : Prop := ∀ g o, A = some ⟨g, o, none⟩ → g < w.heap.size ∧ ¬ cs g
theorem RowFree.kept {A : Option Addr} {cs cs' : Nat → Prop} {W V : World} (h : RowFree A cs W) (hk : KpG cs cs' W V) : RowFree A cs' V := fun g o e => by
  obtain ⟨h1, h2⟩ := h g o e
  refine ⟨Nat.lt_of_lt_of_le h1 hk.size, fun q => ?_⟩
  rcases (hk.new g q).1 with q | q
  · exact h2 q
  · omega
theorem WReads.keptG {A : Option Addr} {cs cs' : Nat → Prop} {W V : World} {l : List Int} (h : WReads W A l) (hf : RowFree A cs W) (hk : KpG cs cs' W V) : WReads V A l := fun j hj => by
  obtain ⟨b, o, e, hc⟩ := h j hj
  obtain ⟨ob, ho1, ho2⟩ := cells_rec hc
  exact ⟨b, o, e, (cell_of_same (a := ⟨b, o + j, none⟩) (by rw [hk.blk b ob (hf b o e).2 ho1 ho2, ho1])).trans hc⟩
set_option maxRecDepth 100000 in
set_option maxHeartbeats 4000000 in
theorem words1_gh (n : Nat) (hn : 1 ≤ n) (b0 lp : Nat) (Dis : Nat → Prop) (w : World) (O : Nat → Prop) (ba room : Nat) (l : List ObjA) (hbox : w.cell? ⟨b0, 0, none⟩ = some (.pointer (some ⟨ba, 0, none⟩))) (hA : ArAt w O ba room l) :
    SeqGh Fence.wide n Tryd.prog 107 #[.pointer (some ⟨b0, 0, none⟩)] lp (wordsA 0 l) Dis w := by
  intro J Jx cs0 W hW hW2 hcs0 hJf hY h0
  have hF3 : Fence.wide.fn 106 := trivial
  have HJ := Lib.hid hJf
  have HY := Lib.hid hY
  have H0 := Lib.hid h0
  have HC0 := Lib.hid hcs0
  have p0 := cell_below hW hbox
  have hlims := hA.lims
  have hwl := hA.wf.len
  obtain ⟨bm, vO, vW, vs, hR⟩ := hA.below hW
  obtain ⟨c0, c1, c2, c3, c4⟩ := hR.cells
  obtain ⟨AW, cW, hvW⟩ := row_slice hR.rw
  have hrw := hR.rw
  rw [hvW] at c4 hrw
  rw [← wordsA_len 0 l] at hrw c4
  have hWR := Lib.hid (WReads.of_row hrw)
  have hln : (wordsA 0 l).length ≤ 262144 := by rw [wordsA_len]; omega
  have hsz := hW.size
  clear hJf hY h0 hbox hW hcs0 c0 c1 c2 c3 hR hvW hrw hA hlims hwl
  refine callsIn_of_wp Tryd.func107 rfl trivial ?_ rfl
  simp only [Tryd.ntmps107, List.size_toArray, List.length_cons, List.length_nil, Nat.reduceAdd, Nat.reduceSub, Array.replicate_succ, Array.replicate_zero, List.push_toArray, List.append_toArray, List.nil_append, List.cons_append]
  generalize wordsA 0 l = ws at *
  gi_wp2_with (gi_at_call 106; refine (callsIn_wide.2 (wclone_any ws AW cW _ hWR.out (by omega))).mono ?_; rintro e w2 ⟨A2, c2, rfl, hrow2, hb2⟩)
  have HW2 := Lib.hid (WReads.of_row hrow2)
  have HJ2 := Lib.hid (HJ.out cs0 [] W w2 H0.out (Fr.of_below hb2))
  have hsz2 := hb2.size
  have HL2 := Lib.hid (show ∀ k, cs0 k → k < w2.heap.size from fun k hk => by have := (HC0.out k hk).1; omega)
  have HF2 := Lib.hid (show RowFree A2 cs0 w2 from fun g o e => by
    subst e
    have h1 := row_lt hrow2 g (by simp [Value.ownBlock])
    have h2 := row_base hrow2 g (by simp [Value.ownBlock])
    exact ⟨h1, fun q => by have := (HC0.out g q).1; omega⟩)
  clear hb2 hrow2 p0 c4
  gi_loopw [13] (fun i wr => ∃ (k : Nat) (cs : Nat → Prop), k ≤ ws.length ∧ i = .int .i64 (k : Int) ∧ Hid (J cs (ws.take k) wr) ∧ Hid (∀ k, cs k → k < wr.heap.size) ∧ Hid (RowFree A2 cs wr) ∧ Hid (WReads wr A2 ws)) (fun i _ => ws.length - (intOf i).toNat)
  case atStart => exact ⟨0, cs0, Nat.zero_le _, rfl, HJ2, HL2, HF2, HW2⟩
  case round =>
    clear HJ2 HL2 HF2 HW2
    obtain ⟨k, cs, hk, rfl, hJs, hcl, hrf, hrd⟩ := hrel
    by_cases hlt : k < ws.length
    · obtain ⟨g, o, hA2, q0⟩ := hrd.out k hlt
      subst hA2
      have TK := Lib.hid (List.take_succ_eq_append_getElem hlt)
      have hk1 : (k : Int) < (ws.length : Int) := by omega
      have hk0 : (0 : Int) ≤ (k : Int) := Int.natCast_nonneg _
      obtain ⟨x, hxe⟩ : ∃ x, ws[k] = x := ⟨_, rfl⟩
      rw [hxe] at q0 TK
      have hpre : ws.take k ++ [x] <+: ws := by rw [← TK.out]; exact List.take_prefix _ _
      obtain ⟨fn, tmps, assign, body, hy, hRd⟩ := HY.out cs (ws.take k) x wr hJs.out hcl.out hpre
      have hy' : (Instr.yield lp #[.int .u64 x]).run Tryd.prog wr = _ := hy
      have HPRE := Lib.hid hpre
      clear hxe hpre
      gi_wp2
      refine hRd.mono ?_
      rintro e W3 ⟨cs', (⟨rfl, hJ4⟩ | ⟨rfl, hJx4⟩), hk4⟩
      · have HJ4 := Lib.hid (show J cs' (ws.take (k + 1)) W3 by rw [TK.out]; exact hJ4)
        have HRF := Lib.hid (hrf.out.kept hk4)
        have HRD := Lib.hid (hrd.out.keptG hrf.out hk4)
        have HCL := Lib.hid (show ∀ k, cs' k → k < W3.heap.size from fun k q => (hk4.new k q).2)
        clear hJ4 hk4 hy hy' hRd
        gi_wp2
        go_roundw
        case rel => exact ⟨k + 1, cs', by omega, by go_num, HJ4, HCL, HRF, HRD⟩
        case measure => simp [intOf]; omega
      · have HJ4 := Lib.hid hJx4
        clear hJx4 hk4 hy hy' hRd
        gi_wp2
        refine bodyPost_ret (results_none rfl _ _ _) rfl ?_
        exact ⟨⟨_, rfl⟩, .inr ⟨cs', _, HPRE.out, HJ4.out⟩⟩
    · have e : ws.take k = ws := List.take_of_length_le (by omega)
      have HE := Lib.hid e
      gi_wp2
      go_end0
      exact ⟨⟨_, rfl⟩, .inl ⟨cs, by have := hJs.out; rw [HE.out] at this; exact this⟩⟩
theorem words1_ghnil (n : Nat) (lp b0 : Nat) (w : World) (Dis : Nat → Prop) (hc0 : w.cell? ⟨b0, 0, none⟩ = some (.pointer none)) :
    SeqGh Fence.wide n Tryd.prog 107 #[.pointer (some ⟨b0, 0, none⟩)] lp [] Dis w := by
  intro J Jx cs0 W hW hW2 hcs0 hJf hY h0
  have H0 := Lib.hid h0
  have p0 := cell_below hW hc0
  clear hJf hY h0 hc0 hW hW2 hcs0
  refine callsIn_of_wp Tryd.func107 rfl trivial ?_ rfl
  simp only [Tryd.ntmps107, List.size_toArray, List.length_cons, List.length_nil, Nat.reduceAdd, Nat.reduceSub, Array.replicate_succ, Array.replicate_zero, List.push_toArray, List.append_toArray, List.nil_append, List.cons_append]
  gi_wp2
  refine bodyPost_ret (results_none rfl _ _ _) rfl ?_
  exact ⟨⟨_, rfl⟩, .inl ⟨cs0, H0.out⟩⟩
theorem seqAll_gh (p0 : Option Addr) (w : World) : Calls Tryd.prog 60 #[.pointer p0] w fun e w' => e = .returned (.func (.func 107) #[] #[.pointer (some ⟨w.heap.size, 0, none⟩)]) ∧ w' = w.alloc (.cells #[.pointer p0] 24) := by
  go_enter Tryd.func60, Tryd.ntmps60
  go_wp2
  go_ret
  exact ⟨rfl, rfl⟩
set_option maxRecDepth 100000 in
set_option maxHeartbeats 4000000 in
theorem reach1_gh (n : Nat) (hn : 1 ≤ n) (b0 lp : Nat) (w : World) (A : Option Addr) (cap : Nat) (ws : List Int) (hbox : w.cell? ⟨b0, 0, none⟩ = some (.slice A ws.length cap)) (hr : WReads w A ws) (hln : ws.length ≤ 262144) (hAl : ∀ g o, A = some ⟨g, o, none⟩ → g < w.heap.size) :
    SeqGh Fence.wide n Tryd.prog 130 #[.pointer (some ⟨b0, 0, none⟩)] lp ws (fun k => ∃ o, A = some ⟨k, o, none⟩) w := by
  intro J Jx cs0 W hW hW2 hcs0 hJf hY h0
  have HJ := Lib.hid hJf
  have HY := Lib.hid hY
  have H0 := Lib.hid h0
  have HC0 := Lib.hid (show ∀ k, cs0 k → k < W.heap.size from fun k hk => (hcs0 k hk).1)
  have p0 := cell_below hW hbox
  have HW2 := Lib.hid (hr.below hW)
  have hsz := hW.size
  have HF2 := Lib.hid (show RowFree A cs0 W from fun g o e => ⟨by have := hAl g o e; omega, fun q => (hcs0 g q).2 ⟨o, e⟩⟩)
  clear hJf hY h0 hbox hW hcs0 hr hAl
  refine callsIn_of_wp Tryd.func130 rfl trivial ?_ rfl
  simp only [Tryd.ntmps130, List.size_toArray, List.length_cons, List.length_nil, Nat.reduceAdd, Nat.reduceSub, Array.replicate_succ, Array.replicate_zero, List.push_toArray, List.append_toArray, List.nil_append, List.cons_append]
  gi_wp2
  gi_loopw [7] (fun i wr => ∃ (k : Nat) (cs : Nat → Prop), k ≤ ws.length ∧ i = .int .i64 (k : Int) ∧ Hid (J cs (ws.take k) wr) ∧ Hid (∀ k, cs k → k < wr.heap.size) ∧ Hid (RowFree A cs wr) ∧ Hid (WReads wr A ws)) (fun i _ => ws.length - (intOf i).toNat)
  case atStart => exact ⟨0, cs0, Nat.zero_le _, rfl, H0, HC0, HF2, HW2⟩
  case round =>
    clear H0 HC0 HF2 HW2
    obtain ⟨k, cs, hk, rfl, hJs, hcl, hrf, hrd⟩ := hrel
    by_cases hlt : k < ws.length
    · obtain ⟨g, o, hA2, q0⟩ := hrd.out k hlt
      subst hA2
      have TK := Lib.hid (List.take_succ_eq_append_getElem hlt)
      have hk1 : (k : Int) < (ws.length : Int) := by omega
      have hk0 : (0 : Int) ≤ (k : Int) := Int.natCast_nonneg _
      obtain ⟨x, hxe⟩ : ∃ x, ws[k] = x := ⟨_, rfl⟩
      rw [hxe] at q0 TK
      have hpre : ws.take k ++ [x] <+: ws := by rw [← TK.out]; exact List.take_prefix _ _
      obtain ⟨fn, tmps, assign, body, hy, hRd⟩ := HY.out cs (ws.take k) x wr hJs.out hcl.out hpre
      have hy' : (Instr.yield lp #[.int .u64 x]).run Tryd.prog wr = _ := hy
      have HPRE := Lib.hid hpre
      clear hxe hpre
      gi_wp2
      refine hRd.mono ?_
      rintro e W3 ⟨cs', (⟨rfl, hJ4⟩ | ⟨rfl, hJx4⟩), hk4⟩
      · have HJ4 := Lib.hid (show J cs' (ws.take (k + 1)) W3 by rw [TK.out]; exact hJ4)
        have HRF := Lib.hid (hrf.out.kept hk4)
        have HRD := Lib.hid (hrd.out.keptG hrf.out hk4)
        have HCL := Lib.hid (show ∀ k, cs' k → k < W3.heap.size from fun k q => (hk4.new k q).2)
        clear hJ4 hk4 hy hy' hRd
        gi_wp2
        go_roundw
        case rel => exact ⟨k + 1, cs', by omega, by go_num, HJ4, HCL, HRF, HRD⟩
        case measure => simp [intOf]; omega
      · have HJ4 := Lib.hid hJx4
        clear hJx4 hk4 hy hy' hRd
        gi_wp2
        refine bodyPost_ret (results_none rfl _ _ _) rfl ?_
        exact ⟨⟨_, rfl⟩, .inr ⟨cs', _, HPRE.out, HJ4.out⟩⟩
    · have e : ws.take k = ws := List.take_of_length_le (by omega)
      have HE := Lib.hid e
      gi_wp2
      go_end0
      exact ⟨⟨_, rfl⟩, .inl ⟨cs, by have := hJs.out; rw [HE.out] at this; exact this⟩⟩
end Go.Proofs.YthgnihckeckaiaaDoor.Tm
