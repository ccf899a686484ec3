/- Layer 3's reference: lay. -/
import Derived.Test.YtejcbpbhhofhlaaDoorRfD
namespace Go.Proofs.YtejcbpbhhofhlaaDoor.Tm
open Go.RowKit
set_option linter.unusedVariables false
set_option linter.unusedSimpArgs false

theorem val_info : (Tryd.prog.info? 39).map (fun i => (i.zero, i.size, i.bytes)) = some (some (.agg #[.int .i64 0, .int .i64 0, .int .i64 0, .string ⟨#[]⟩]), 4, 40) := by kernel_rfl
theorem onev {a b c : Int} {t : ByteArray} : ∀ u ∈ ([.int .i64 a, .int .i64 b, .int .i64 c, .string t] : List Value), u.oneCell' = true := by
  intro u hu
  simp at hu
  rcases hu with rfl | rfl | rfl | rfl <;> rfl
structure LayRep (w wr : World) (O0 O : Nat → Prop) (ra cells : Nat) (rs : List ObjR) (vL : Value) (vals : List ValR) (vP : Value) (np : Nat) (vs : List Value) : Prop where
  rf : RfAt wr O ra cells rs
  o1 : ∀ k, O0 k → O k
  o2 : ∀ k, O k → O0 k ∨ w.heap.size ≤ k
  fr : Fr O0 w wr
  row : wr.ownsRow (w.heap.size + 1) 39 4 vL vals.length (encVs vals)
  lO : ∀ k, vL.ownBlock = some k → ¬ O k
  par : wr.ownsRow (w.heap.size + 1) 35 1 vP np vs
  pO : ∀ k, vP.ownBlock = some k → ¬ O k ∧ vL.ownBlock ≠ some k
  res : BlkIs wr w.heap.size #[.int .i64 0, .int .i64 0, .int .i64 0, .string ⟨#[]⟩] 39
  rO : ¬ O w.heap.size
theorem LayRep.below {w wr w' : World} {O0 O : Nat → Prop} {ra cells : Nat} {rs : List ObjR} {vL : Value} {vals : List ValR} {vP : Value} {np : Nat} {vs : List Value} (h : LayRep w wr O0 O ra cells rs vL vals vP np vs) (hB : Below wr.heap.size wr w') : LayRep w w' O0 O ra cells rs vL vals vP np vs :=
  ⟨h.rf.below hB, h.o1, h.o2, fr_below h.fr hB, row_below h.row hB, h.lO, row_below h.par hB, h.pO, h.res.below hB, h.rO⟩
theorem LayRep.made {w wr w' : World} {O0 O : Nat → Prop} {ra cells : Nat} {rs rs' : List ObjR} {vL : Value} {vals : List ValR} {vP : Value} {np : Nat} {vs : List Value} (h : LayRep w wr O0 O ra cells rs vL vals vP np vs) (hM : RMade wr w' O NoX ra cells rs') : ∃ O', LayRep w w' O0 O' ra cells rs' vL vals vP np vs := by
  obtain ⟨O', a1, a2, a3, a4⟩ := hM
  have hs := h.fr.size
  have hn : ∀ k, k < wr.heap.size → ¬ O k → ¬ O' k := fun k hk ho ho' => by
    rcases a3 k ho' with h | h | h
    · exact ho h
    · exact h
    · omega
  refine ⟨O', a1, fun k hk => a2 k (h.o1 k hk), fun k hk => ?_, h.fr.trans' a4 fun i hi ho => ?_, row_fr h.row a4 h.lO, fun k hk => hn k (row_lt h.row k hk) (h.lO k hk), row_fr h.par a4 fun k hk => (h.pO k hk).1,
    fun k hk => ⟨hn k (row_lt h.par k hk) (h.pO k hk).1, (h.pO k hk).2⟩, (a4.block _ h.res.lt h.rO).trans h.res, hn _ h.res.lt h.rO⟩
  · rcases a3 k hk with h' | h' | h'
    · exact h.o2 k h'
    · exact absurd h' id
    · exact .inr (by omega)
  · rcases h.o2 i ho with h | h
    · exact h
    · omega
theorem LayRep.snoc {w wr wa w' : World} {O0 O : Nat → Prop} {ra cells : Nat} {rs : List ObjR} {vL : Value} {vals : List ValR} {vP : Value} {np : Nat} {vs : List Value} (h : LayRep w wr O0 O ra cells rs vL vals vP np vs) (hB : Below wr.heap.size wr wa) (hg : wa.grownBy w' vL.ownBlock) {v : ValR} {g cap : Nat}
    (hrow : w'.ownsRow (w.heap.size + 1) 39 4 (.slice (some ⟨g, 0, none⟩) (vals.length + 1) cap) (vals.length + 1) (encVs vals ++ encV v)) (hat : vL.ownBlock = some g ∨ wa.heap.size ≤ g) :
    LayRep w w' O0 O ra cells rs (.slice (some ⟨g, 0, none⟩) (vals.length + 1) cap) (vals ++ [v]) vP np vs := by
  have h := h.below hB
  have hs := h.fr.size
  have hlim := h.rf.lim
  have hg1 : ∀ k, (Value.slice (some ⟨g, 0, none⟩) (vals.length + 1) cap).ownBlock = some k → g = k := fun k hk => by simpa [Value.ownBlock] using hk
  refine ⟨h.rf.same hg.size fun k hk => hg.block k (hlim k hk).2 (fun e => h.lO k e.symm hk), h.o1, h.o2, ?_, ?_, ?_, h.par.kept hg ?_, ?_, ?_, h.rO⟩
  · refine ⟨hg.os.trans h.fr.os, hg.tape.trans h.fr.tape, hg.output.trans h.fr.output, Nat.le_trans hs hg.size, fun k hk hO => ?_⟩
    rw [hg.block k (by omega) (fun e => by have := row_base h.row k e.symm; omega), h.fr.block k hk hO]
  · rw [List.length_append, List.length_singleton, encVs_snoc]
    exact hrow
  · intro k hk hO
    rw [← hg1 k hk] at hO
    rcases hat with h' | h'
    · exact h.lO g h' hO
    · have := (hlim g hO).2; omega
  · cases hv : vP.ownBlock with
    | none => exact .inl rfl
    | some k => exact .inr (fun e => (h.pO k hv).2 e.symm)
  · intro k hk
    refine ⟨(h.pO k hk).1, fun e => ?_⟩
    have e' := hg1 k e
    subst e'
    rcases hat with h' | h'
    · exact (h.pO g hk).2 h'
    · have := row_lt h.par g hk; omega
  · exact (hg.block _ h.res.lt (fun e => by have := row_base h.row _ e.symm; omega)).trans h.res
def LayOk (f : Nat) : Prop := ∀ (w : World) (O : Nat → Prop) (ra cells : Nat) (rs : List ObjR) (t : List CellD) (A : Option Addr) (cap : Nat), t.length ≤ f → t.length ≤ 1024 → t.length ≤ cap → Good t 1 → RfAt w O ra cells rs → Reads w A t → (∀ g o, A = some ⟨g, o, none⟩ → ¬ O g) → rs.length + t.length ≤ 1000000 →
  Calls Tryd.prog 34 #[.pointer (some ⟨ra, 0, none⟩), .slice A t.length cap] w fun e w' => e = .returned (layR f rs t).2.agg ∧ RMade w w' O NoX ra cells (layR f rs t).1
theorem reads_same2 {w V : World} {b o : Nat} {l : List CellD} (h : Reads w (some ⟨b, o, none⟩) l) (e : V.heap[b]? = w.heap[b]?) : Reads V (some ⟨b, o, none⟩) l := fun j hj => by
  obtain ⟨b', o', e', hc⟩ := h j hj
  obtain ⟨rfl, rfl⟩ : b = b' ∧ o = o' := by simpa using e'
  exact ⟨b, o, rfl, (cell_of_same (a := ⟨b, _, none⟩) e).trans hc.1, (cell_of_same (a := ⟨b, _, none⟩) e).trans hc.2.1, (cell_of_same (a := ⟨b, _, none⟩) e).trans hc.2.2⟩
theorem CellAt.same2 {w V : World} {b o : Nat} {c : CellD} (h : CellAt w b o c) (e : V.heap[b]? = w.heap[b]?) : CellAt V b o c :=
  ⟨(cell_of_same (a := ⟨b, _, none⟩) e).trans h.1, (cell_of_same (a := ⟨b, _, none⟩) e).trans h.2.1, (cell_of_same (a := ⟨b, _, none⟩) e).trans h.2.2⟩
theorem lay_final {w wr w3 w4 : World} {O0 O : Nat → Prop} {ra cells : Nat} {rs rs' : List ObjR} {AL : Option Addr} {n cL : Nat} {vals : List ValR} {vP : Value} {np : Nat} {vs : List Value} (h : LayRep w wr O0 O ra cells rs (.slice AL n cL) vals vP np vs) (hM : RMade wr w3 O (fun k => ∃ q, AL = some ⟨k, q, none⟩) ra cells rs')
    (hlim : ∀ k, O0 k → k < w.heap.size) (hF : Fr (fun k => k = w.heap.size) w3 w4) : RMade w w4 O0 NoX ra cells rs' := by
  obtain ⟨O', a1, a2, a3, a4⟩ := hM
  have hs := h.fr.size
  have hX : ∀ k, (∃ q, AL = some ⟨k, q, none⟩) → w.heap.size + 1 ≤ k := fun k ⟨q, e⟩ => row_base h.row k (by rw [e]; rfl)
  have hnb : ¬ O' w.heap.size := fun hk => by
    rcases a3 _ hk with h' | h' | h'
    · exact h.rO h'
    · have := hX _ h'; omega
    · have := h.res.lt; omega
  refine ⟨O', a1.fr1 hnb hF, fun k hk => a2 k (h.o1 k hk), fun k hk => ?_, ?_⟩
  · rcases a3 k hk with h' | h' | h'
    · exact (h.o2 k h').imp id .inr
    · exact .inr (.inr (by have := hX _ h'; omega))
    · exact .inr (.inr (by omega))
  · refine (h.fr.trans' a4 fun i hi ho => ?_).trans' hF fun i hi e => by omega
    rcases h.o2 i ho with h' | h'
    · exact h'
    · omega
theorem part_len {t : List CellD} : ∀ p ∈ partsE t, p.length < t.length := by
  cases t with
  | nil => intro p hp; cases hp
  | cons c l =>
    intro p hp
    have := partsK_small (kidsD c) l p hp
    simp; omega
set_option maxRecDepth 10000 in
set_option maxHeartbeats 4000000 in
theorem lay_step (f : Nat) (ih : LayOk f) : LayOk (f + 1) := by
  intro w O ra cells rs t A cap htf ht1 htc hg hR hr hA hl
  have et := right_of_good hg ht1
  obtain ⟨c, ht, hce, hpl, hpg⟩ := parts_good hg
  have hhd : t.headD zeroR = c := by rw [ht]; rfl
  have hB0 := below_one w (.cells #[.int .i64 0, .int .i64 0, .int .i64 0, .string ⟨#[]⟩] 39)
  have hpa := wpartsB_any t A cap (w.alloc (.cells #[.int .i64 0, .int .i64 0, .int .i64 0, .string ⟨#[]⟩] 39)) (hr.below hB0) htc et
  have hps := partsE_sum (t := t) (by rw [ht]; simp)
  have hpl2 := partsE_len t
  have HPL := Lib.hid (part_len (t := t))
  have HPG := Lib.hid hpg
  have HR := Lib.hid hR
  have HT := Lib.hid hr
  have HAO := Lib.hid hA
  have HB0 := Lib.hid hB0
  have HHD := Lib.hid hhd
  have hlim := Lib.hid (fun k hk => (hR.lim k hk).2)
  have hlen0 := good_len hg
  have h0 : t[0]? = some c := by rw [ht]; rfl
  clear ht hce hpl hpg hR hr hA hB0 hhd et hg
  obtain ⟨b, o, rfl, hc0⟩ := HT.out 0 (by omega)
  have e0 : t[0] = c := by
    rw [List.getElem?_eq_getElem (by omega)] at h0
    exact Option.some.inj h0
  rw [e0, Nat.zero_mul, Nat.add_zero] at hc0
  have HC0 := Lib.hid hc0
  have hnO := HAO.out b o rfl
  clear h0 e0 hc0
  go_enter Tryd.func34, Tryd.ntmps34
  go_wp2_with fail
  refine hpa.mono ?_
  rintro e w1 ⟨A1, c1, b', o', hb', rfl, ⟨vs, hrow1, hE1⟩, hb1⟩
  obtain ⟨rfl, rfl⟩ : b = b' ∧ o = o' := by simpa using hb'
  have hB1 := below_then HB0.out hb1
  have HB1 := Lib.hid hB1
  have hYA := (heap_new w (.cells #[.int .i64 0, .int .i64 0, .int .i64 0, .string ⟨#[]⟩] 39))
  have BY := Lib.hid (show BlkIs w1 w.heap.size #[.int .i64 0, .int .i64 0, .int .i64 0, .string ⟨#[]⟩] 39 from (hb1.block _ (by rw [World.size_alloc]; omega)).trans hYA)
  rw [World.size_alloc] at hrow1
  have HROW := Lib.hid hrow1
  have HE := Lib.hid hE1
  clear hb1 hB1 hYA hrow1 hE1 hb' hpa
  by_cases hn : (partsE t).length = 0
  · have HL := Lib.hid (layR_leaf (f := f) (rs := rs) hn)
    have hbn : (((partsE t).length : Int) == 0) = true := by rw [hn]; rfl
    obtain ⟨y0, y1, y2⟩ := HC0.out.below HB1.out
    have hlf := rleaf_any w1 O ra cells rs c (HR.out.below HB1.out) (by omega)
    go_wp2_with fail
    refine hlf.mono ?_
    rintro e w2 ⟨rfl, hM⟩
    have hbl1 := BY.out.lt
    have BY2 : BlkIs w2 w.heap.size #[.int .i64 0, .int .i64 0, .int .i64 0, .string ⟨#[]⟩] 39 := by
      obtain ⟨O', a1, a2, a3, a4⟩ := hM
      exact (a4.block _ hbl1 (fun h => by have := hlim.out _ h; omega)).trans BY.out
    have z0 := BY2.cell 0 (v := .int .i64 0) rfl
    have z1 := BY2.cell 1 (v := .int .i64 0) rfl
    have z2 := BY2.cell 2 (v := .int .i64 0) rfl
    have z3 := BY2.cell 3 (v := .string ⟨#[]⟩) rfl
    have f0 := BY2.frozen 0
    have f1 := BY2.frozen 1
    have f2 := BY2.frozen 2
    have f3 := BY2.frozen 3
    have HM := Lib.hid hM
    rw [HHD.out] at HL
    obtain ⟨v, hv⟩ : ∃ v, (leafR rs c).2 = v := ⟨_, rfl⟩
    rw [hv]
    have HV := Lib.hid hv
    unfold ValR.agg
    have BZ := Lib.hid (blk_set4 BY2 (.int .i64 v.obj) (.int .i64 v.cell.kind) (.int .i64 v.cell.n) (.string v.cell.text))
    clear hM hlf BY2 hv y0 y1 y2
    go_wp2
    obtain ⟨q0, q1, q2, q3⟩ := (⟨BZ.out.cell 0 rfl, BZ.out.cell 1 rfl, BZ.out.cell 2 rfl, BZ.out.cell 3 rfl⟩ : _ ∧ _ ∧ _ ∧ _)
    refine bodyPost_ret (v := .agg #[.int .i64 v.obj, .int .i64 v.cell.kind, .int .i64 v.cell.n, .string v.cell.text]) (by simp [results, Tryd.results34, go_sem, q0, q1, q2, q3]) rfl ?_
    rw [HL.out, HV.out]
    exact ⟨rfl, RMade.set HB1.out HM.out hlim.out (fun k h => h) (b := w.heap.size) (Nat.le_refl _) hbl1 (fr_set4 _ _ _ _)⟩
  · have HL := Lib.hid (layR_hold (f := f) (rs := rs) hn)
    have hbn : (((partsE t).length : Int) == 0) = false := beq_eq_false_iff_ne.2 (by omega)
    have HR1 : Hid (LayRep w w1 O O ra cells rs (.slice none 0 0) [] (.slice A1 (partsE t).length c1) (partsE t).length vs) := Lib.hid
      ⟨HR.out.below HB1.out, fun _ h => h, fun _ h => .inl h, Fr.of_below HB1.out, row_nil _ _ _ _, fun k hk => by simp [Value.ownBlock] at hk, HROW.out, fun k hk => ⟨fun ho => by have h1 := hlim.out _ ho; have h2 := row_base HROW.out k hk; omega, by simp [Value.ownBlock]⟩, BY.out, fun ho => by have := hlim.out _ ho; omega⟩
    have HN := Lib.hid hn
    clear BY HROW hn
    go_wp2_with fail
    go_loopw [6, 7] (fun vL i wr => ∃ (j : Nat) (O' : Nat → Prop), j ≤ (partsE t).length ∧ i = .int .i64 (j : Int) ∧ Hid (LayRep w wr O O' ra cells (layF f rs ((partsE t).take j)).1 vL (layF f rs ((partsE t).take j)).2 (.slice A1 (partsE t).length c1) (partsE t).length vs)) (fun vL i wr => (partsE t).length - (intOf i).toNat)
    case atStart => exact ⟨0, O, Nat.zero_le _, rfl, HR1⟩
    case round =>
      clear HR1
      obtain ⟨j, O2, hj, rfl, hL⟩ := hrel
      have hbw : b < w.heap.size := cell_lt HC0.out.1
      have hsame : wr.heap[b]? = w1.heap[b]? := (hL.out.fr.block b hbw hnO).trans (HB1.out.block b hbw).symm
      have hsame0 : wr.heap[b]? = w.heap[b]? := hL.out.fr.block b hbw hnO
      by_cases hlt : j < (partsE t).length
      · obtain ⟨Aj, cj, ej, hcj, hRj, oj, rfl⟩ := HE.out.2 j hlt
        obtain ⟨g1, rfl, _, _⟩ := row_form hL.out.par (by omega)
        have q0 := row_cell1 hL.out.par ej
        have HRp := Lib.hid (reads_same2 hRj hsame)
        have hpm := List.getElem_mem hlt
        have hpj := HPL.out _ hpm
        have hpg := HPG.out _ hpm
        have hsz := layF_size (f := f) (rs := rs) (ps := (partsE t).take j) (fun p hp => HPG.out p (List.mem_of_mem_take hp))
        have hsa := sumLen_at hlt
        have TK := Lib.hid (List.take_succ_eq_append_getElem hlt)
        have hll := layF_len f rs ((partsE t).take j)
        rw [List.length_take, Nat.min_eq_left (by omega)] at hll
        have hO2b : ¬ O2 b := fun h => by
          rcases hL.out.o2 b h with h | h
          · exact hnO h
          · omega
        have hk1 : (j : Int) < ((partsE t).length : Int) := by omega
        have hk0 : (0 : Int) ≤ (j : Int) := Int.natCast_nonneg _
        obtain ⟨RJ, hRJ⟩ : ∃ s, layF f rs ((partsE t).take j) = s := ⟨_, rfl⟩
        rw [hRJ] at hL hsz hll
        have HRJ := Lib.hid hRJ
        obtain ⟨part, hpart⟩ : ∃ p, (partsE t)[j] = p := ⟨_, rfl⟩
        rw [hpart] at q0 HRp hpj hpg hsa TK hcj
        have hrec := ih wr O2 ra cells RJ.1 part (some ⟨b, oj, none⟩) cj (by omega) (by omega) hcj hpg hL.out.rf HRp.out (fun g o e => by cases e; exact hO2b) (by omega)
        have HNX := Lib.hid (layF_snoc f rs ((partsE t).take j) part)
        rw [← TK.out, HRJ.out] at HNX
        have HL0 := hL
        clear hpm ej hRj hpg hpart hRJ hL hsa hsz hO2b hcj
        go_wp2_with fail
        refine hrec.mono ?_
        rintro e w2 ⟨rfl, hM⟩
        obtain ⟨O3, hL3⟩ := HL0.out.made hM
        obtain ⟨q, hq⟩ : ∃ q, layR f RJ.1 part = q := ⟨_, rfl⟩
        rw [hq] at hL3 HNX ⊢
        unfold ValR.agg
        obtain ⟨AL, cL, hvL⟩ := row_slice hL3.row
        subst hvL
        have HL3 := Lib.hid hL3
        have hs3 := hL3.fr.size
        have hrow3 := hL3.row
        rw [hll] at hrow3
        have HROW3 := Lib.hid hrow3
        have HLL := Lib.hid hll
        rw [hll]
        obtain ⟨i0, hi, hz0, hz1, hz2⟩ := info_parts val_info
        have hA1 : j + 1 ≤ maxLen := by unfold maxLen; omega
        have hA2 : (j + 1) * 40 ≤ 140737488355328 := by omega
        have hbl3 := hL3.res.lt
        have hA3 : w.heap.size + 1 ≤ (w2.alloc (.cells #[.int .i64 q.2.obj, .int .i64 q.2.cell.kind, .int .i64 q.2.cell.n, .string q.2.cell.text] 39)).heap.size := by rw [World.size_alloc]; omega
        clear hM hL3 hrow3 hrec q0 hll hq HL0
        go_wp2_with (at_builtin
                     refine wpList_append_lies _ rfl _ _ _ rfl (w.heap.size + 1) 39 i0 _ 4 40 Tryd.underlying97 hi hz0 hz1 hz2 rfl (by omega) (.slice AL j cL) j (encVs RJ.2) rfl (HROW3.out.alloc _) ⟨w2.heap.size, 0, none⟩ 1 1 [.int .i64 q.2.obj, .int .i64 q.2.cell.kind, .int .i64 q.2.cell.n, .string q.2.cell.text] rfl rfl (World.news_of_block (cs := #[.int .i64 q.2.obj, .int .i64 q.2.cell.kind, .int .i64 q.2.cell.n, .string q.2.cell.text]) (t := 39) (fr := (0, 0)) (heap_alloc_new w2 _)) onev (by omega) hA1 hA2 hA3 (w2.heap.size + 1) (World.size_alloc _ _) ?_
                     intro g2 cap2 w8 hown8 hgrow8 hat8 hlt8)
        go_roundw
        case rel =>
          refine ⟨j + 1, O3, by omega, by go_num, Lib.hid ?_⟩
          rw [HNX.out]
          have e := HLL.out
          subst e
          exact HL3.out.snoc (below_one w2 _) hgrow8 hown8 (hat8.imp id (fun e => by rw [World.size_alloc]; omega))
        case measure => simp [intOf]; omega
      · obtain rfl : j = (partsE t).length := by omega
        have hll := layF_len f rs ((partsE t).take (partsE t).length)
        rw [List.take_length] at hll hL
        have hsz := layF_size (f := f) (rs := rs) (ps := partsE t) (fun p hp => HPG.out p hp)
        obtain ⟨RJ, hRJ⟩ : ∃ s, layF f rs (partsE t) = s := ⟨_, rfl⟩
        rw [hRJ] at hL hsz hll HL
        rw [HHD.out] at HL
        obtain ⟨AL, cL, hvL⟩ := row_slice hL.out.row
        subst hvL
        have hlim2 := hL.out.rf.lim
        have hw3 : 3 ≤ w.heap.size := by
          have h1 := (HR.out.lim _ (by obtain ⟨_, _, h⟩ := HR.out; exact h.ora))
          omega
        have hmk := rmake_any wr O2 ra cells RJ.1 ⟨c, RJ.2⟩ AL cL hL.out.rf (VReads.of_row hL.out.row) (row_cap hL.out.row) (fun b q e => by
          have h1 := row_base hL.out.row b (by rw [e]; rfl)
          have h2 := row_lt hL.out.row b (by rw [e]; rfl)
          exact ⟨hL.out.lO b (by rw [e]; rfl), by omega, h2⟩) (by omega)
        obtain ⟨y0, y1, y2⟩ := CellAt.same2 HC0.out hsame0
        obtain ⟨m, hm⟩ : ∃ m, RJ.2.length = m := ⟨_, rfl⟩
        rw [hm] at hmk
        rw [hm]
        have HM0 := Lib.hid hm
        have HL0 := hL
        clear hL hm hll hRJ
        go_wp2_with fail
        refine hmk.mono ?_
        rintro e w3 ⟨rfl, hM⟩
        have HM := Lib.hid hM
        have BY2 : BlkIs w3 w.heap.size #[.int .i64 0, .int .i64 0, .int .i64 0, .string ⟨#[]⟩] 39 := by
          obtain ⟨O', a1, a2, a3, a4⟩ := hM
          exact (a4.block _ HL0.out.res.lt HL0.out.rO).trans HL0.out.res
        have z0 := BY2.cell 0 (v := .int .i64 0) rfl
        have z1 := BY2.cell 1 (v := .int .i64 0) rfl
        have z2 := BY2.cell 2 (v := .int .i64 0) rfl
        have z3 := BY2.cell 3 (v := .string ⟨#[]⟩) rfl
        have f0 := BY2.frozen 0
        have f1 := BY2.frozen 1
        have f2 := BY2.frozen 2
        have f3 := BY2.frozen 3
        have BZ := Lib.hid (blk_set4 BY2 (.int .i64 (RJ.1.length : Int)) (.int .i64 c.kind) (.int .i64 c.n) (.string c.text))
        clear hM BY2 hmk y0 y1 y2
        go_wp2
        obtain ⟨q0, q1, q2, q3⟩ := (⟨BZ.out.cell 0 rfl, BZ.out.cell 1 rfl, BZ.out.cell 2 rfl, BZ.out.cell 3 rfl⟩ : _ ∧ _ ∧ _ ∧ _)
        refine bodyPost_ret (v := .agg #[.int .i64 (RJ.1.length : Int), .int .i64 c.kind, .int .i64 c.n, .string c.text]) (by simp [results, Tryd.results34, go_sem, q0, q1, q2, q3]) rfl ?_
        rw [HL.out]
        exact ⟨rfl, lay_final HL0.out HM.out hlim.out (fr_set4 _ _ _ _)⟩
end Go.Proofs.YtejcbpbhhofhlaaDoor.Tm
