/- order.Parts: the iterator, which yields clones. -/
import Derived.Test.YtfeaolnklooanaaDoorSeqM
namespace Go.Proofs.YtfeaolnklooanaaDoor.Tm
open Go.RowKit Go.Shelf
set_option linter.unusedVariables false
set_option linter.unusedSimpArgs false
attribute [local go_sem] Oper.semAt_some

/-- What a round is handed: its number, how far the iterator's memory reaches, a clone. -/
structure Yld where
  i : Nat
  sz : Nat
  A : Option Addr
  l : List CellD
  c : Nat
def Yld.val (y : Yld) : Value := .slice y.A y.l.length y.c
def encY (y : Yld) : Array Value := #[.int .i64 y.i, .slice y.A y.l.length y.c]
def encZ (y : Yld) : Array Value := #[.slice y.A y.l.length y.c]
def YRows (lo : Nat) (ys : List Yld) (W : World) : Prop := ∀ y ∈ ys, RowIs W lo y.A y.c y.l
def YApart (ys : List Yld) : Prop := ys.Pairwise fun y z => y.val.ownBlock = none ∨ y.val.ownBlock ≠ z.val.ownBlock
def szOf : List Yld → Nat
  | [] => 0
  | y :: _ => y.sz
structure KpY (Bx : Nat → Prop) (xs : List Yld) (W V : World) : Prop where
  size : W.heap.size ≤ V.heap.size
  blk : ∀ k o, k < szOf xs → ¬ Bx k → W.heap[k]? = some o → o.isCells = true → V.heap[k]? = some o
  row : ∀ base A c l, RowIs W base A c l → RowIs V base A c l
structure GY (lo : Nat) (ls : List (List CellD)) (pre : List Yld) (x : Yld) (W : World) : Prop where
  ix : x.i = pre.length
  sz1 : lo + 2 ≤ x.sz
  sz2 : x.sz ≤ W.heap.size
  same : ∀ y ∈ pre, y.sz = x.sz
  ls : (pre ++ [x]).map Yld.l <+: ls
  rows : YRows lo (pre ++ [x]) W
  apart : YApart (pre ++ [x])
def SY (lo : Nat) (ls : List (List CellD)) (xs : List Yld) (W : World) : Prop := xs.map Yld.l = ls ∧ YRows lo xs W ∧ YApart xs
def SpY (lo : Nat) (ls : List (List CellD)) (xs : List Yld) (W : World) : Prop := xs.map Yld.l <+: ls ∧ YRows lo xs W ∧ YApart xs
theorem YRows.below {lo : Nat} {ys : List Yld} {W V : World} (h : YRows lo ys W) (hB : Below W.heap.size W V) : YRows lo ys V := fun y hy => row_below (h y hy) hB
theorem YRows.kept {lo : Nat} {ys xs : List Yld} {W V : World} {Bx : Nat → Prop} (h : YRows lo ys W) (k : KpY Bx xs W V) : YRows lo ys V := fun y hy => k.row _ _ _ _ (h y hy)
theorem YApart.snoc {lo : Nat} {ys : List Yld} {W V : World} {x : Yld} (h : YApart ys) (hr : YRows lo ys W) (hx : RowIs V W.heap.size x.A x.c x.l) : YApart (ys ++ [x]) := by
  refine List.pairwise_append.2 ⟨h, List.pairwise_singleton _ _, fun y hy z hz => ?_⟩
  obtain rfl : z = x := by simpa using hz
  cases hv : y.val.ownBlock with
  | none => exact .inl rfl
  | some k =>
    right
    intro e
    have h1 := row_lt (hr y hy) k hv
    have h2 := row_base hx k e.symm
    omega
theorem YRows.nil (lo : Nat) (W : World) : YRows lo [] W := fun y hy => absurd hy (List.not_mem_nil)
theorem YRows.snoc {lo : Nat} {ys : List Yld} {W : World} {x : Yld} (h : YRows lo ys W) (hx : RowIs W lo x.A x.c x.l) : YRows lo (ys ++ [x]) W := fun y hy => by
  rcases List.mem_append.1 hy with h1 | h1
  · exact h y h1
  · obtain rfl : y = x := by simpa using h1
    exact hx
theorem szOf_of {ys : List Yld} {s : Nat} (h : ∀ y ∈ ys, y.sz = s) (hne : ys ≠ []) : szOf ys = s := by
  cases ys with
  | nil => exact absurd rfl hne
  | cons y l => exact h y (by simp)
theorem cells_of_cell {w : World} {b i : Nat} {v : Value} (h : w.cell? ⟨b, i, none⟩ = some v) : ∃ o, w.heap[b]? = some o ∧ o.isCells = true := by
  unfold World.cell? at h
  cases ho : w.heap[b]? with
  | none => simp [ho] at h
  | some o => exact ⟨o, rfl, by cases o <;> simp_all [Obj.isCells]⟩
theorem same_cells {w V : World} {Bx : Nat → Prop} {s : Nat} (h : ∀ m o, m < s → ¬ Bx m → w.heap[m]? = some o → o.isCells = true → V.heap[m]? = some o) {b i : Nat} {v : Value} (hb : b < s) (hn : ¬ Bx b) (hc : w.cell? ⟨b, i, none⟩ = some v) : V.heap[b]? = w.heap[b]? := by
  obtain ⟨o, ho, hc2⟩ := cells_of_cell hc
  rw [h b o hb hn ho hc2, ho]
theorem reads_same {w V : World} {b o : Nat} {l : List CellD} (h : Reads w (some ⟨b, o, none⟩) l) (e : V.heap[b]? = w.heap[b]?) : Reads V (some ⟨b, o, none⟩) l := fun j hj => by
  obtain ⟨b', o', e', hc⟩ := h j hj
  obtain ⟨rfl, rfl⟩ : b = b' ∧ o = o' := by simpa using e'
  exact ⟨b, o, rfl, (cell_of_same (a := ⟨b, _, none⟩) e).trans hc.1, (cell_of_same (a := ⟨b, _, none⟩) e).trans hc.2.1, (cell_of_same (a := ⟨b, _, none⟩) e).trans hc.2.2⟩
theorem SlsB.cell {w : World} {base cap b : Nat} {A : Option Addr} {ls : List (List CellD)} (h : SlsB w base A cap b ls) {j : Nat} (hj : j < ls.length) :
    ∃ g o' cj, A = some ⟨g, 0, none⟩ ∧ base ≤ g ∧ w.cell? ⟨g, j, none⟩ = some (.slice (some ⟨b, o', none⟩) ls[j].length cj) ∧ ls[j].length ≤ cj ∧ Reads w (some ⟨b, o', none⟩) ls[j] := by
  obtain ⟨vs, h1, h2⟩ := h
  obtain ⟨Aj, cj, e, p1, p2, o', rfl⟩ := h2.2 j hj
  obtain ⟨g, rfl, hg, _⟩ := row_form h1 (by omega)
  exact ⟨g, o', cj, rfl, hg, row_cell1 h1 e, p1, p2⟩
set_option maxRecDepth 100000 in
set_option maxHeartbeats 4000000 in
theorem parts1_mem (n : Nat) (hn : 1 ≤ n) (t : List CellD) (b0 : Nat) (A : Option Addr) (c lp : Nat) (Bx : Nat → Prop) (w : World) (hbox : w.cell? ⟨b0, 0, none⟩ = some (.slice A t.length c)) (hr : Reads w A t) (hf : Fine t) (hc : t.length ≤ c) (hT : Tabs w)
    (hBx : ∀ k, Bx k → k < w.heap.size) (hA : ∀ b o, A = some ⟨b, o, none⟩ → ¬ Bx b) :
    SeqMem Fence.wide n Tryd.prog 53 #[.pointer (some ⟨b0, 0, none⟩)] lp encY (GY w.heap.size (partsR t)) (KpY Bx) (SY w.heap.size (partsR t)) (SpY w.heap.size (partsR t)) w := by
  intro J Jx hJg hY W hW hW2 h0
  have hF1 : Fence.wide.fn 34 := trivial
  have hF2 : Fence.wide.fn 35 := trivial
  have hF3 : Fence.wide.fn 36 := trivial
  have HJ := Lib.hid hJg
  have HY := Lib.hid hY
  have H0 := Lib.hid h0
  have HBX := Lib.hid hBx
  have HA := Lib.hid hA
  have p0 := cell_below hW hbox
  have HR := Lib.hid (hr.below hW)
  have HF1 := Lib.hid (show Fine2 [t] from fun j hj => by have : j = 0 := by simpa using hj
                                                          subst this; exact hf)
  have HT := Lib.hid (Utf8Tabs_below hT hW)
  have hsz := hW.size
  have HR0 := Lib.hid hr
  clear hJg hY h0 hbox hr hT hW hBx hA
  have HS := Lib.hid (slAt_new1 (t := 22) HR.out hc)
  refine callsIn_of_wp Tryd.func53 rfl trivial ?_ rfl
  simp only [Tryd.ntmps53, List.size_toArray, List.length_cons, List.length_nil, Nat.reduceAdd, Nat.reduceSub, Array.replicate_succ, Array.replicate_zero, List.push_toArray, List.append_toArray, List.nil_append, List.cons_append]
  have hB0 := below_one W (.cells #[.slice A t.length c] 22)
  have p0a := cell_below hB0 p0
  have HB0 := Lib.hid hB0
  clear hB0
  by_cases et : (rightE t).1 ≠ 0
  · have F := Lib.hid (show partsR t = [] by rw [partsR, if_pos et])
    have te : ((rightE t).1 != 0) = true := by rw [bne_iff_ne]; exact et
    clear et
    gi_wp2_with (gi_at_call 34; refine (callsIn_wide.2 (wrong_any [t] _ 1 _ HS.out HF1.out (by simp) (Utf8Tabs_below HT.out HB0.out))).mono ?_; rw [wrong_one]; rintro e w1 ⟨rfl, hb1⟩; have hB1 := below_then HB0.out hb1)
    refine bodyPost_ret (results_none rfl _ _ _) rfl ?_
    exact ⟨⟨_, rfl⟩, .inl ⟨[], ⟨F.out.symm, YRows.nil _ _, List.Pairwise.nil⟩, HJ.out [] W _ H0.out hB1⟩⟩
  have et : (rightE t).1 = 0 := Decidable.not_not.1 et
  have te : ((rightE t).1 != 0) = false := by rw [bne_eq_false_iff_eq]; exact et
  have ET := Lib.hid et
  have F := Lib.hid (show partsR t = partsE t by rw [partsR, if_neg (by simp [et])])
  have hps := Lib.hid (partsE_small t)
  have hpl := partsE_len t
  have htl := (rightE_ok et).2.2
  have htp := (rightE_ok et).2.1
  clear et
  gi_wp2_with (first
    | (gi_at_call 34; refine (callsIn_wide.2 (wrong_any [t] _ 1 _ HS.out HF1.out (by simp) (Utf8Tabs_below HT.out HB0.out))).mono ?_; rw [wrong_one]; rintro e w1 ⟨rfl, hb1⟩; have hB1 := below_then HB0.out hb1; have p1 := cell_below hb1 p0a)
    | (gi_at_call 35; refine (callsIn_wide.2 (partsB_any t A c _ (HR.out.below hB1) hc ET.out)).mono ?_; rintro e w2 ⟨A2, c2, b, o, hAb, rfl, hS2, hb2⟩))
  have hB2 := below_then hB1 hb2
  have HS2 := Lib.hid hS2
  have HJ2 := Lib.hid (HJ.out [] W _ H0.out hB2)
  have HR2 := Lib.hid (HR.out.below hB2)
  have hnb : ¬ Bx b := HA.out b o hAb
  obtain ⟨ob, vb, hbc⟩ : ∃ ob vb, w2.cell? ⟨b, ob, none⟩ = some vb := by
    obtain ⟨b', o', e', hc'⟩ := HR2.out 0 (by omega)
    obtain ⟨rfl, rfl⟩ : b = b' ∧ o = o' := by rw [hAb] at e'; simpa using e'
    exact ⟨_, _, hc'.1⟩
  have hbw : b < w2.heap.size := cell_lt hbc
  have hbc := Lib.hid hbc
  have hsz2 := hB2.size
  have hsz1 := hB1.size
  have hnb := Lib.hid hnb
  clear hS2 hb2 hb1 hB2 hB1 p1 p0a p0 hAb
  gi_loopw [12] (fun i wr => ∃ (k : Nat) (pre : List Yld), k ≤ (partsE t).length ∧ i = .int .i64 k ∧ Hid (pre.length = k) ∧ Hid (pre.map Yld.l = (partsE t).take k) ∧ Hid (J pre wr) ∧ Hid (YRows w.heap.size pre wr) ∧ Hid (YApart pre) ∧ Hid (∀ y ∈ pre, y.sz = w2.heap.size) ∧ Hid (∀ m o, m < w2.heap.size → ¬ Bx m → w2.heap[m]? = some o → o.isCells = true → wr.heap[m]? = some o) ∧ w2.heap.size ≤ wr.heap.size) (fun i _ => (partsE t).length - (intOf i).toNat)
  case atStart => exact ⟨0, [], Nat.zero_le _, rfl, rfl, rfl, HJ2, YRows.nil _ _, List.Pairwise.nil, fun y hy => absurd hy (List.not_mem_nil), fun _ _ _ _ h _ => h, Nat.le_refl _⟩
  case round =>
    obtain ⟨k, pre, hk, rfl, hlen, hmap, hJs, hrows, hap, hszs, hsame, hsw⟩ := hrel
    by_cases hlt : k < (partsE t).length
    · obtain ⟨g, o', cj, hA2, hgb, q0, q1, q2⟩ := HS2.out.cell hlt
      subst hA2
      have hng : ¬ Bx g := fun h => by have := HBX.out g h; omega
      have hgw : g < w2.heap.size := cell_lt q0
      have q0' : wr.cell? ⟨g, k, none⟩ = some (.slice (some ⟨b, o', none⟩) (partsE t)[k].length cj) := (cell_of_same (a := ⟨g, k, none⟩) (same_cells hsame.out hgw hng q0)).trans q0
      have HRp := Lib.hid (reads_same q2 (same_cells hsame.out hbw hnb.out hbc.out))
      have hpj := hps.out _ (List.getElem_mem hlt)
      have TK := Lib.hid (List.take_succ_eq_append_getElem hlt)
      have hk1 : (k : Int) < ((partsE t).length : Int) := by omega
      have hk0 : (0 : Int) ≤ (k : Int) := Int.natCast_nonneg _
      generalize (partsE t)[k] = part at *
      clear q0 q2 hng
      gi_wp2_with (gi_at_call 36; refine (callsIn_wide.2 (clone_any part _ cj _ HRp.out (by omega))).mono ?_; rintro e w3 ⟨A3, c3, rfl, hown⟩; have hb3 := hown.bel; have hz3 := hb3.size; have HX := Lib.hid (show RowIs w3 wr.heap.size A3 c3 part from hown.row); have HRW := Lib.hid (hrows.out.below hb3); have HG := Lib.hid (show GY w.heap.size (partsR t) pre ⟨k, w2.heap.size, A3, part, c3⟩ w3 from ⟨hlen.out.symm, by simp only; omega, by simp only; omega, hszs.out, by rw [F.out, List.map_append, hmap.out]; show _ ++ [part] <+: _; rw [← TK.out]; exact List.take_prefix _ _, HRW.out.snoc (row_mono HX.out (by omega)), hap.out.snoc hrows.out HX.out⟩); obtain ⟨fn, tmps, assign, body, hy, hR⟩ := HY.out pre ⟨k, w2.heap.size, A3, part, c3⟩ w3 (HJ.out pre wr w3 hJs.out hb3) HG.out; have hy' : (Instr.yield lp #[.int .i64 (k : Int), .slice A3 part.length c3]).run Tryd.prog w3 = _ := hy)
      refine hR.mono ?_
      rintro e W3 (⟨rfl, hJ4, hk4⟩ | ⟨rfl, hJx4, hk4⟩)
      · have HJ4 := Lib.hid hJ4
        have hsz4 := hk4.size
        have hzs : ∀ y ∈ pre ++ [(⟨k, w2.heap.size, A3, part, c3⟩ : Yld)], y.sz = w2.heap.size := fun y hy => by
          rcases List.mem_append.1 hy with h1 | h1
          · exact hszs.out y h1
          · obtain rfl : y = _ := by simpa using h1
            rfl
        have hszo : szOf (pre ++ [(⟨k, w2.heap.size, A3, part, c3⟩ : Yld)]) = w2.heap.size := szOf_of hzs (by simp)
        have HZ := Lib.hid hzs
        have HSM := Lib.hid (show ∀ m o, m < w2.heap.size → ¬ Bx m → w2.heap[m]? = some o → o.isCells = true → W3.heap[m]? = some o from fun m o hm hx ho hc => hk4.blk m o (by rw [hszo]; exact hm) hx ((hb3.block m (by omega)).trans (hsame.out m o hm hx ho hc)) hc)
        have HRR := Lib.hid (HG.out.rows.kept hk4)
        have HAP := Lib.hid HG.out.apart
        have HLN := Lib.hid (show (pre ++ [(⟨k, w2.heap.size, A3, part, c3⟩ : Yld)]).length = k + 1 by rw [List.length_append, hlen.out]; rfl)
        have HMP := Lib.hid (show (pre ++ [(⟨k, w2.heap.size, A3, part, c3⟩ : Yld)]).map Yld.l = (partsE t).take (k + 1) by rw [TK.out, List.map_append, hmap.out]; rfl)
        clear hJ4 hk4 hzs hszo hy hy' hR
        gi_wp2
        go_roundw
        case rel => exact ⟨k + 1, _, by omega, by go_num, HLN, HMP, HJ4, HRR, HAP, HZ, HSM, by omega⟩
        case measure => simp [intOf]; omega
      · have HJ4 := Lib.hid hJx4
        have HRR := Lib.hid (HG.out.rows.kept hk4)
        have HAP := Lib.hid HG.out.apart
        have HLS := Lib.hid HG.out.ls
        clear hJx4 hk4 hy hy' hR
        gi_wp2
        refine bodyPost_ret (results_none rfl _ _ _) rfl ?_
        exact ⟨⟨_, rfl⟩, .inr ⟨_, ⟨HLS.out, HRR.out, HAP.out⟩, HJ4.out⟩⟩
    · have hE : pre.map Yld.l = partsR t := by rw [F.out, hmap.out, List.take_of_length_le (by omega)]
      have HE := Lib.hid hE
      clear hE
      gi_wp2
      go_end0
      exact ⟨⟨_, rfl⟩, .inl ⟨pre, ⟨HE.out, hrows.out, hap.out⟩, hJs.out⟩⟩
set_option maxHeartbeats 1000000 in
theorem oparts_any (t : List CellD) (A : Option Addr) (c : Nat) (w : World) (hr : Reads w A t) (hf : Fine t) :
    Calls Tryd.prog 38 #[.slice A t.length c] w fun e w' => ∃ b0 A' c', e = .returned (.func (.func 53) #[] #[.pointer (some ⟨b0, 0, none⟩)]) ∧ w'.cell? ⟨b0, 0, none⟩ = some (.slice A' t.length c') ∧ Reads w' A' t ∧ t.length ≤ c' ∧ w.heap.size ≤ b0 ∧ (∀ b o, A' = some ⟨b, o, none⟩ → w.heap.size ≤ b) ∧ Below w.heap.size w w' := by
  have HR := Lib.hid hr
  have hl := hf.len
  clear hr hf
  go_enter Tryd.func38, Tryd.ntmps38
  go_wp2_with fail
  refine (clone_any t A c _ HR.out (by omega)).mono ?_
  rintro e w1 ⟨A1, c1, rfl, ho⟩
  have hsz := ho.bel.size
  have HX := Lib.hid ho
  have hb := below_one w1 (.cells #[.slice A1 t.length c1] 22)
  have q0 : (w1.alloc (.cells #[.slice A1 t.length c1] 22)).cell? ⟨w1.heap.size, 0, none⟩ = some (.slice A1 t.length c1) := by go_cell
  have Q := Lib.hid q0
  have HB := Lib.hid hb
  clear ho hb q0
  go_wp2
  go_ret
  exact ⟨w1.heap.size, A1, c1, rfl, Q.out, HX.out.reads.below HB.out, HX.out.cap, hsz, fun b o e => row_base HX.out.row b (by rw [e]; rfl), below_then HX.out.bel HB.out⟩
end Go.Proofs.YtfeaolnklooanaaDoor.Tm
