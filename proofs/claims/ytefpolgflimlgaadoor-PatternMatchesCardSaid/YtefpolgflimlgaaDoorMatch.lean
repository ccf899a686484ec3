/- pattern.Match: matchE, in memory of its own. -/
import Derived.Test.YtefpolgflimlgaaDoorHeld
import Derived.Test.YtefpolgflimlgaaDoorPatRG
import Derived.Test.YtefpolgflimlgaaDoorPatE
import Derived.BigQuiet
import Derived.WalkSmall
import Derived.Deep.QuietTactic
namespace Go.Proofs.YtefpolgflimlgaaDoor.Tm
open Go.RowKit
set_option linter.unusedVariables false
set_option linter.unusedSimpArgs false
attribute [local go_sem ↓] Go.wp_at_zero Go.wp_at_succ

/-- Registers that a call answers: none, or sixteen. -/
def RegsAt (W : World) (base : Nat) (v : Value) (R : List (List CellD)) : Prop := (R = [] ∧ v = .slice none 0 0) ∨ (∃ og vs, v = .slice (some ⟨og, 0, none⟩) 16 16 ∧ R.length = 16 ∧ Outs W base og vs R)
def MatchPost (w : World) (r : List (List CellD) × Bool × Int) (e : Ending) (w' : World) : Prop := ∃ v, e = .returned (.tuple #[v, .bool r.2.1, .int .i64 r.2.2]) ∧ RegsAt w' w.heap.size v r.1 ∧ Below w.heap.size w w'
theorem MatchPost.no {w w' : World} {b : Bool} {k : Int} {r : List (List CellD) × Bool × Int} (h : r = ([], b, k)) (hB : Below w.heap.size w w') : MatchPost w r (.returned (.tuple #[.slice none 0 0, .bool b, .int .i64 k])) w' := by
  subst h
  exact ⟨_, rfl, .inl ⟨rfl, rfl⟩, hB⟩
theorem m_p {p t : List CellD} {x : List (List CellD)} (h : (prightE p).1 ≠ 0) : matchE p t x = ([], false, (prightE p).1) := by rw [matchE, if_pos h]
theorem m_t {p t : List CellD} {x : List (List CellD)} (h : (prightE p).1 = 0) (k : (rightE t).1 ≠ 0) : matchE p t x = ([], false, (rightE t).1) := by rw [matchE, if_neg (by simp [h]), if_pos k]
theorem m_x {p t : List CellD} {x : List (List CellD)} (h : (prightE p).1 = 0) (k : (rightE t).1 = 0) (l : wrong8 x ≠ 0) : matchE p t x = ([], false, wrong8 x) := by rw [matchE, if_neg (by simp [h]), if_neg (by simp [k]), if_pos l]
theorem m_a {p t : List CellD} {x : List (List CellD)} (h : (prightE p).1 = 0) (k : (rightE t).1 = 0) (l : wrong8 x = 0) (a : asksSet p x = false) : matchE p t x = ([], false, 5) := by
  rw [matchE, if_neg (by simp [h]), if_neg (by simp [k]), if_neg (by simp [l]), if_pos a]
theorem m_n {p t : List CellD} {x : List (List CellD)} (h : (prightE p).1 = 0) (k : (rightE t).1 = 0) (l : wrong8 x = 0) (a : asksSet p x = true) (f : fitsL p t x (regs16 x) = none) : matchE p t x = ([], false, 0) := by
  rw [matchE, if_neg (by simp [h]), if_neg (by simp [k]), if_neg (by simp [l]), if_neg (by simp [a]), f]
theorem m_y {p t : List CellD} {x R : List (List CellD)} (h : (prightE p).1 = 0) (k : (rightE t).1 = 0) (l : wrong8 x = 0) (a : asksSet p x = true) (f : fitsL p t x (regs16 x) = some R) : matchE p t x = (R, true, 0) := by
  rw [matchE, if_neg (by simp [h]), if_neg (by simp [k]), if_neg (by simp [l]), if_neg (by simp [a]), f]
theorem set_no {p : List CellD} {x : List (List CellD)} {n : Int} (h : n ∈ namedD p 13) (e : regD x n = []) : asksSet p x = false := by
  unfold namedD at h
  simp only [List.mem_map, List.mem_filter, List.mem_range] at h
  obtain ⟨m, ⟨_, h2⟩, rfl⟩ := h
  simp only [namedB, List.any_eq_true] at h2
  obtain ⟨c, hc, e2⟩ := h2
  simp at e2
  unfold asksSet
  rw [List.all_eq_false]
  exact ⟨c, hc, by simp [e2.1, e2.2, e]⟩
theorem set_yes {p : List CellD} {x : List (List CellD)} (hp : ∀ c ∈ p, patE c = 0) (h : ∀ n ∈ namedD p 13, regD x n ≠ []) : asksSet p x = true := by
  unfold asksSet
  rw [List.all_eq_true]
  intro c hc
  by_cases k : c.kind = 13
  · have hr := hole_reg (hp c hc) (by rw [k]; rfl)
    have := h c.n (by
      unfold namedD
      simp only [List.mem_map, List.mem_filter, List.mem_range]
      refine ⟨c.n.toNat, ⟨by omega, ?_⟩, by omega⟩
      simp only [namedB, List.any_eq_true]
      exact ⟨c, hc, by simp [k]; omega⟩)
    simp [this]
  · simp [k]
theorem named_at {p : List CellD} {q : Int} {k : Nat} (h : k < (namedD p q).length) : ∃ m : Nat, (namedD p q)[k] = (m : Int) ∧ m < 16 := by
  have := List.getElem_mem h
  unfold namedD at this
  simp only [List.mem_map, List.mem_filter, List.mem_range] at this
  obtain ⟨m, ⟨h1, _⟩, e⟩ := this
  exact ⟨m, e.symm, h1⟩
theorem named_len (p : List CellD) (q : Int) : (namedD p q).length ≤ 16 := by
  unfold namedD
  rw [List.length_map]
  exact Nat.le_trans (List.length_filter_le _ _) (by simp)
theorem make16 (w : World) : (Instr.makeSlice 29 (.int .i64 16) (.int .i64 16)).run Tryd.prog w = .ok (.slice (some ⟨w.heap.size, 0, none⟩) 16 16) (w.alloc (.cells nils16 22)) := by kernel_rfl
/-- One round of the last loop, over plain lists. -/
theorem fits_bind {c : CellD} {p t : List CellD} {x o : List (List CellD)} (k : c.kind = 12) : fitsL (c :: p) t x o = fitsL p (skipK t 1) x (o.set c.n.toNat (t.take (spanK t 1))) := by
  rw [fitsL, if_pos (by rw [k]; rfl), if_neg (fun h => by omega), if_pos k]
theorem fits_same_yes {c : CellD} {p t : List CellD} {x o : List (List CellD)} (k : c.kind = 13) (e : t.take (spanK t 1) = regD x c.n) : fitsL (c :: p) t x o = fitsL p (skipK t 1) x o := by
  rw [fitsL, if_pos (by rw [k]; rfl), if_neg (fun h => h.2 e), if_neg (by omega)]
theorem fits_same_no {c : CellD} {p t : List CellD} {x o : List (List CellD)} (k : c.kind = 13) (e : t.take (spanK t 1) ≠ regD x c.n) : fitsL (c :: p) t x o = none := by
  rw [fitsL, if_pos (by rw [k]; rfl), if_pos ⟨k, e⟩]
theorem fits_any {c : CellD} {p t : List CellD} {x o : List (List CellD)} (k : c.kind = 11) : fitsL (c :: p) t x o = fitsL p (skipK t 1) x o := by
  rw [fitsL, if_pos (by rw [k]; rfl), if_neg (fun h => by omega), if_neg (by omega)]
theorem fits_cell_yes {c : CellD} {p t : List CellD} {x o : List (List CellD)} (k : holeB c.kind = false) : fitsL (c :: p) (c :: t) x o = fitsL p t x o := by
  rw [fitsL, if_neg (by simp [k]), List.head?_cons, if_pos rfl]; rfl
theorem fits_cell_no {c d : CellD} {p t : List CellD} {x o : List (List CellD)} (k : holeB c.kind = false) (e : d ≠ c) : fitsL (c :: p) (d :: t) x o = none := by
  rw [fitsL, if_neg (by simp [k]), List.head?_cons, if_neg (fun h => e (by injection h))]
theorem Outs.base_ {W : World} {base base' og : Nat} {vs : Array Value} {R : List (List CellD)} (h : Outs W base og vs R) (hb : base' ≤ base) : Outs W base' og vs R :=
  ⟨h.blk, Nat.le_trans hb h.low, h.each.mono fun _ _ _ p => row_mono p hb, h.apart⟩
/-- What Match's frame holds in memory: the registers, both captured variables. -/
structure MInv (w W : World) (og : Nat) (C : Option Addr) (n cx : Nat) (R : List (List CellD)) : Prop where
  outs : ∃ vs, Outs W og og vs R
  ob : W.cell? ⟨og + 1, 0, none⟩ = some (.slice (some ⟨og, 0, none⟩) 16 16)
  xb : W.cell? ⟨w.heap.size, 0, none⟩ = some (.slice C n cx)
  bel : Below w.heap.size w W
  low : w.heap.size < og
section
variable {w W V : World} {og n cx : Nat} {C : Option Addr} {R : List (List CellD)}
theorem MInv.below (h : MInv w W og C n cx R) (hB : Below W.heap.size W V) : MInv w V og C n cx R :=
  ⟨h.outs.imp fun _ o => o.below hB, cell_below hB h.ob, cell_below hB h.xb, below_then h.bel hB, h.low⟩
theorem MInv.store (h : MInv w W og C n cx R) (hB : Below W.heap.size W V) {k : Nat} (hk : k < R.length) {A : Option Addr} {c : Nat} {l : List CellD} (hr : V.ownsRow W.heap.size 32 3 (.slice A l.length c) l.length (encs l)) :
    MInv w (V.setCell ⟨og, k, none⟩ (.slice A l.length c)) og C n cx (R.set k l) := by
  obtain ⟨vs, o⟩ := h.outs
  have hV := h.below hB
  have hlt := o.lt
  exact ⟨⟨_, o.set_ hB hk hr (Nat.le_of_lt hlt)⟩, (World.cell?_setCell_far V ⟨og, k, none⟩ ⟨og + 1, 0, none⟩ _ (by simp)).trans hV.ob,
    (World.cell?_setCell_far V ⟨og, k, none⟩ ⟨w.heap.size, 0, none⟩ _ (by have := h.low; simp; omega)).trans hV.xb, hV.bel.setCell (p := ⟨og, k, none⟩) (Nat.le_of_lt h.low) _, h.low⟩
theorem MInv.grown (h : MInv w W og C n cx R) {R' : List (List CellD)} (ho : ∃ vs, Outs V og og vs R') (hg : W.grownBy V (some og)) : MInv w V og C n cx R' :=
  ⟨ho, (World.cell?_of_block (w := W) (a := ⟨og + 1, 0, none⟩) (hg.block _ (cell_lt h.ob) (by simp))).trans h.ob,
    (World.cell?_of_block (w := W) (a := ⟨w.heap.size, 0, none⟩) (hg.block _ (cell_lt h.xb) (by have := h.low; simp; omega))).trans h.xb,
    h.bel.grown hg h.bel.size (fun k e => by injection e with e; have := h.low; omega), h.low⟩
theorem MInv.drew (h : MInv w W og C n cx R) : MInv w W.drew og C n cx R := h.below ((Below.refl _ _).drew)
end
theorem grown_cell {W V : World} {og q i : Nat} {v : Value} (hg : W.grownBy V (some og)) (hc : W.cell? ⟨q, i, none⟩ = some v) (hne : q ≠ og) : V.cell? ⟨q, i, none⟩ = some v :=
  (World.cell?_of_block (w := W) (a := ⟨q, i, none⟩) (hg.block _ (cell_lt hc) (fun e => hne (by injection e)))).trans hc
theorem text_ne {x y : CellD} (he : x ≠ y) (hk : x.kind = y.kind) (hn : x.n = y.n) : (x.text.toList == y.text.toList) = false := by
  rw [beq_eq_false_iff_ne]
  intro e
  apply he
  obtain ⟨k1, n1, t1⟩ := x
  obtain ⟨k2, n2, t2⟩ := y
  simp only at hk hn e
  subst hk hn
  rw [ByteArray.toList_eq, ByteArray.toList_eq] at e
  obtain ⟨⟨t1⟩⟩ := t1
  obtain ⟨⟨t2⟩⟩ := t2
  simp only at e
  rw [e]
theorem MInv.start {w W : World} {C : Option Addr} {n cx : Nat} (hB : Below w.heap.size w W) (hx : W.cell? ⟨w.heap.size, 0, none⟩ = some (.slice C n cx)) :
    MInv w ((W.alloc (.cells nils16 22)).alloc (.cells #[.slice (some ⟨W.heap.size, 0, none⟩) 16 16] 29)) W.heap.size C n cx (List.replicate 16 []) := by
  have hb := below_then (below_one W (.cells nils16 22)) (below_one _ (.cells #[.slice (some ⟨W.heap.size, 0, none⟩) 16 16] 29))
  refine ⟨⟨_, (Outs.new W).below (below_one _ _)⟩, ?_, cell_below hb hx, below_then hB hb, cell_lt hx⟩
  have := heap_new (W.alloc (.cells nils16 22)) (.cells #[.slice (some ⟨W.heap.size, 0, none⟩) 16 16] 29)
  rw [World.size_alloc] at this
  exact (cell_of_row _ _ 0 _ _ _ this).trans rfl
set_option maxRecDepth 100000 in
set_option maxHeartbeats 8000000 in
theorem pmatch_any (p t : List CellD) (x : List (List CellD)) (A B C : Option Addr) (cp ct cx : Nat) (w : World) (hp : Reads w A p) (hfp : Fine p) (ht : Reads w B t) (hft : Fine t) (hx : Reads2 w C x) (hfx : Fine2 x)
    (hct : t.length ≤ ct) (hlx : x.length ≤ 1000000000000000) (hT : Tabs w) :
    Calls Tryd.prog 58 #[.slice A p.length cp, .slice B t.length ct, .slice C x.length cx] w (MatchPost w (matchE p t x)) := by
  have HP := Lib.hid hp
  have HFP := Lib.hid hfp
  have HT := Lib.hid ht
  have HFT := Lib.hid hft
  have HX := Lib.hid hx
  have HFX := Lib.hid hfx
  have HTT := Lib.hid hT
  have hlp := hfp.lim
  have hlt := hft.lim
  have hmk := make16
  have hB1 := below_one w (.cells #[.slice C x.length cx] 29)
  have HXB := Lib.hid (show (w.alloc (.cells #[.slice C x.length cx] 29)).cell? ⟨w.heap.size, 0, none⟩ = some (.slice C x.length cx) by go_cell)
  have HB1 := Lib.hid hB1
  clear hp hfp ht hft hx hfx hT hB1
  go_enter Tryd.func58, Tryd.ntmps58
  go_wp2_with fail
  go_step3
  go_wp2_with fail
  refine (pright_any p A cp _ (HP.out.below HB1.out) HFP.out (Utf8Tabs_below HTT.out HB1.out)).mono ?_
  rintro e w2 ⟨rfl, hb2⟩
  have hB2 := below_then HB1.out hb2
  have x2 := cell_below hb2 HXB.out
  by_cases ep : (prightE p).1 ≠ 0
  · have F := Lib.hid (m_p (t := t) (x := x) ep)
    have tp : ((prightE p).1 != 0) = true := by rw [bne_iff_ne]; exact ep
    clear ep
    go_wp2
    refine bodyPost_ret (results_tmp3 rfl _ _ _) rfl ?_
    exact MatchPost.no F.out hB2
  have ep : (prightE p).1 = 0 := Decidable.not_not.1 ep
  have tp : ((prightE p).1 != 0) = false := by rw [bne_eq_false_iff_eq]; exact ep
  have EP := Lib.hid ep
  have HB2 := Lib.hid hB2
  clear ep hb2 hB2
  go_wp2_with fail
  refine (wright_any t B ct _ (HT.out.below HB2.out) HFT.out.text HFT.out.lim (Utf8Tabs_below HTT.out HB2.out)).mono ?_
  rintro e w3 ⟨rfl, hb3⟩
  have hB3 := below_then HB2.out hb3
  have x3 := cell_below hb3 x2
  by_cases et : (rightE t).1 ≠ 0
  · have F := Lib.hid (m_t (t := t) (x := x) EP.out et)
    have tt : ((rightE t).1 != 0) = true := by rw [bne_iff_ne]; exact et
    clear et
    go_wp2
    refine bodyPost_ret (results_tmp3 rfl _ _ _) rfl ?_
    exact MatchPost.no F.out hB3
  have et : (rightE t).1 = 0 := Decidable.not_not.1 et
  have tt : ((rightE t).1 != 0) = false := by rw [bne_eq_false_iff_eq]; exact et
  have ET := Lib.hid et
  have HB3 := Lib.hid hB3
  clear et hb3 hB3 x2 tp
  go_wp2_with fail
  refine (pwrong_any x C cx _ (HX.out.below HB3.out) HFX.out hlx (Utf8Tabs_below HTT.out HB3.out)).mono ?_
  rintro e w4 ⟨rfl, hb4⟩
  have hB4 := below_then HB3.out hb4
  have x4 := cell_below hb4 x3
  by_cases ex : wrong8 x ≠ 0
  · have F := Lib.hid (m_x (x := x) EP.out ET.out ex)
    have tx : (wrong8 x != 0) = true := by rw [bne_iff_ne]; exact ex
    clear ex
    go_wp2
    refine bodyPost_ret (results_tmp3 rfl _ _ _) rfl ?_
    exact MatchPost.no F.out hB4
  have ex : wrong8 x = 0 := Decidable.not_not.1 ex
  have tx : (wrong8 x != 0) = false := by rw [bne_eq_false_iff_eq]; exact ex
  have EX := Lib.hid ex
  have HB4 := Lib.hid hB4
  clear ex hb4 hB4 x3 tt
  go_wp2_with fail
  refine (pasks_any p A cp _ (HP.out.below HB4.out) hlp).mono ?_
  rintro e w5 ⟨A5, c5, rfl, hI5, hb5⟩
  have hB5 := below_then HB4.out hb5
  have x5 := cell_below hb5 x4
  have HI := Lib.hid hI5
  have HB5 := Lib.hid hB5
  have hnl := named_len p 13
  clear hI5 hb5 hB5 x4 tx
  go_wp2_with fail
  go_loopw [48] (fun i wr => ∃ k : Nat, k ≤ (namedD p 13).length ∧ i = .int .i64 k ∧ Below w5.heap.size w5 wr ∧ Hid (∀ j (h : j < (namedD p 13).length), j < k → regD x (namedD p 13)[j] ≠ [])) (fun i wr => (namedD p 13).length - (intOf i).toNat)
  case atStart => exact ⟨0, Nat.zero_le _, rfl, Below.refl _ _, fun j _ h => absurd h (Nat.not_lt_zero j)⟩
  case round =>
    obtain ⟨k, hk, rfl, hBr, hH⟩ := hrel
    have hBw := below_then HB5.out hBr
    have xr := cell_below hBr x5
    by_cases hkl : k < (namedD p 13).length
    · obtain ⟨g, hA8, hcg⟩ := (HI.out.below hBr).cells hkl
      subst hA8
      obtain ⟨m, hm, hm16⟩ := named_at hkl
      have Hun := Lib.hid (fun r => set_no (x := x) (List.getElem_mem hkl) (by rw [hm]; exact r))
      have Hst := Lib.hid (show regD x (m : Int) ≠ [] → ∀ j (h : j < (namedD p 13).length), j < k + 1 → regD x (namedD p 13)[j] ≠ [] from fun e j h h1 => by
        rcases Nat.lt_succ_iff_lt_or_eq.1 h1 with h2 | rfl
        · exact hH.out j h h2
        · rw [hm]; exact e)
      rw [hm] at hcg
      have hi1 : (k : Int) < ((namedD p 13).length : Int) := by omega
      have hi0 : (0 : Int) ≤ (k : Int) := Int.natCast_nonneg _
      clear hm hH
      go_wp2_with fail
      refine (register_any x m C cx _ (HX.out.below hBw) hlx).mono ?_
      rintro e w6 ⟨A6, c6, rfl, hc6, hR6, hb6⟩
      by_cases hz : (regD x (m : Int)).length = 0
      · have F := Lib.hid (m_a EP.out ET.out EX.out (Hun.out (List.eq_nil_of_length_eq_zero hz)))
        clear Hun Hst hc6 hR6
        rw [hz]
        clear hz
        go_wp2
        refine bodyPost_ret (results_tmp3 rfl _ _ _) rfl ?_
        exact MatchPost.no F.out (below_then hBw hb6)
      · have hzb : (((regD x (m : Int)).length : Int) == 0) = false := beq_eq_false_iff_ne.2 (by omega)
        have F := Lib.hid (Hst.out (fun e => hz (by rw [e]; rfl)))
        clear Hun Hst hz hc6 hR6
        generalize (regD x (m : Int)).length = n at *
        go_wp2
        go_roundw
        case rel => exact ⟨k + 1, by omega, by go_num, below_then hBr hb6, F⟩
        case measure => simp [intOf]; omega
    · have EA := Lib.hid (set_yes (x := x) (prightE_ok EP.out).1.all (fun n hn => by
        obtain ⟨j, hj, rfl⟩ := List.mem_iff_getElem.1 hn
        exact hH.out j hj (by omega)))
      have M0 := MInv.start hBw xr
      have HM0 := Lib.hid M0
      have xo := M0.xb
      have hoo := M0.ob
      have hlow : w.heap.size < wr.heap.size := M0.low
      have hx16 := (wrong8_regs EX.out).1
      clear hH hBr hBw x5 M0 xr
      go_wp2_with fail
      generalize (wr.alloc (.cells nils16 22)).alloc (.cells #[.slice (some ⟨wr.heap.size, 0, none⟩) 16 16] 29) = W2 at *
      generalize wr.heap.size = og at *
      clear xo hoo
      go_loopw [61] (fun i wr => ∃ k : Nat, k ≤ x.length ∧ i = .int .i64 k ∧ Hid (MInv w wr og C x.length cx (regsTo x k))) (fun i wr => x.length - (intOf i).toNat)
      case atStart => exact ⟨0, Nat.zero_le _, rfl, HM0.out⟩
      case round =>
        obtain ⟨k2, hk2, rfl, hM⟩ := hrel
        by_cases hkx : k2 < x.length
        · obtain ⟨b, o, hA, Ak, ck, q0, q1, q2⟩ := HX.out k2 hkx
          subst hA
          have hB := hM.out.bel
          have q0' := cell_below hB q0
          obtain ⟨vs, hO⟩ := hM.out.outs
          have hrl : (regsTo x k2).length = 16 := regsTo_len x k2
          obtain ⟨A0, c0, p2, _⟩ := hO.cell (n := k2) (by omega)
          have p3 := hO.free k2
          have p0 := hM.out.ob
          have hfk := (HFX.out k2 hkx).len
          have HRk := Lib.hid (q2.below hB.drew)
          have hi1 : (k2 : Int) < (x.length : Int) := by omega
          have hi0 : (0 : Int) ≤ (k2 : Int) := Int.natCast_nonneg _
          have hi16 : (k2 : Int) < 16 := by omega
          have hne : og ≠ og + 1 := by omega
          have HIN := Lib.hid (regD_in hkx)
          have HST := Lib.hid (regsTo_set x (k := k2) (by omega))
          clear q0 hO hB
          go_wp2_with fail
          go_region_held3 (fun w' => w'.cell? ⟨og + 1, 0, none⟩ = some (.slice (some ⟨og, 0, none⟩) 16 16))
            (first
              | exact cell_below hbc p0
              | exact (World.cell?_setCell_far wc ⟨og, k2, none⟩ ⟨og + 1, 0, none⟩ _ hne).trans (cell_below hbc p0)
              | go_keep)
            ((go_at_call 121; refine (own_any _ x[k2] rfl Ak ck _ HRk.out (by omega)).mono ?_; rintro e wc ⟨A1, c1, rfl, hrow, hbc⟩; have t2 := cell_below hbc p2; have t3 := frozen_keep hbc p2 p3))
          have HMS := hM.out.drew.store hbc (k := k2) (by omega) hrow
          rw [← HIN.out, HST.out] at HMS
          have HMS2 := Lib.hid HMS
          rw [HIN.out] at HMS2
          clear HMS
          go_wp2
          go_roundw
          case rel => exact ⟨k2 + 1, by omega, by go_num, HMS2⟩
          case measure => simp [intOf]; omega
        · obtain rfl : k2 = x.length := by omega
          go_wp2_with fail
          rw [regsTo_all (Nat.le_refl _)] at hM
          have G0 := Lib.hid (show ∃ o : Int, PGood (p.drop 0) o ∧ Wf (t.drop 0) o from ⟨1, (prightE_ok EP.out).1, (rightE_ok ET.out).1.wf⟩)
          have htl := (rightE_ok ET.out).2.2
          have hpl := (prightE_ok EP.out).2.2
          clear HM0
          go_step3
          go_wp2_with fail
          go_loopw [19, 75] (fun a n wr => ∃ (i j : Nat) (R : List (List CellD)), i ≤ p.length ∧ n = .int .i64 i ∧ a = .int .i64 j ∧ j ≤ t.length ∧ R.length = 16 ∧ Hid (MInv w wr og C x.length cx R) ∧ Hid (fitsL p t x (regs16 x) = fitsL (p.drop i) (t.drop j) x R) ∧ Hid (∃ o : Int, PGood (p.drop i) o ∧ Wf (t.drop j) o)) (fun a n wr => p.length - (intOf n).toNat)
          case atStart => exact ⟨0, 0, _, Nat.zero_le _, rfl, rfl, Nat.zero_le _, regs16_len x, hM, rfl, G0⟩
          case round =>
            obtain ⟨i, j, R, hi, rfl, rfl, hj, hRl, hMr, hFr, hGr⟩ := hrel
            clear hM hk2 hkx G0
            by_cases hip : i < p.length
            · obtain ⟨b, o, hA, hpc⟩ := HP.out i hip
              subst hA
              have hB := hMr.out.bel
              obtain ⟨q0, q1, q2⟩ := hpc.below hB
              have hGo := hGr.out
              have hFo := hFr.out
              rw [List.drop_eq_getElem_cons hip] at hGo hFo
              obtain ⟨oo, ⟨hpe, hoo, hpg⟩, hwf⟩ := hGo
              have hjt : j < t.length := by
                have h := hwf.ne hoo
                rcases Nat.lt_or_ge j t.length with h1 | h1
                · exact h1
                · exact absurd (List.drop_eq_nil_of_le h1) h
              obtain ⟨b2, o2, hBt, htc⟩ := HT.out j hjt
              subst hBt
              have hi1 : (i : Int) < (p.length : Int) := by omega
              have hi0 : (0 : Int) ≤ (i : Int) := Int.natCast_nonneg _
              have hj1 : (j : Int) < (t.length : Int) := by omega
              have hj0 : (0 : Int) ≤ (j : Int) := Int.natCast_nonneg _
              have HPE := Lib.hid hpe
              have HPG := Lib.hid hpg
              have HWF := Lib.hid hwf
              have HFo := Lib.hid hFo
              clear hGr hFr hFo hpe hpg hwf hpc
              have HMEM := Lib.hid (List.getElem_mem hip)
              generalize p[i] = y at *
              have hM1 := Lib.hid (hMr.out.below (below_one wr (.cells #[.int .i64 y.kind, .int .i64 y.n, .string y.text] 95)))
              have htc1 := htc.below hM1.out.bel
              go_wp2_with fail
              refine (hole_any y.kind _).mono ?_
              rintro e' w1 ⟨rfl, rfl⟩
              cases hh : holeB y.kind
              · obtain ⟨t0, t1, t2⟩ := htc1
                by_cases heq : t[j] = y
                · have F := Lib.hid (show fitsL p t x (regs16 x) = fitsL (p.drop (i + 1)) (t.drop (j + 1)) x R by rw [HFo.out, List.drop_eq_getElem_cons hjt, heq, fits_cell_yes hh])
                  have G := Lib.hid (show ∃ o : Int, PGood (p.drop (i + 1)) o ∧ Wf (t.drop (j + 1)) o from ⟨_, HPG.out, by have h := HWF.out; rw [List.drop_eq_getElem_cons hjt, heq] at h; exact h.2⟩)
                  rw [heq] at t0 t1 t2
                  clear HFo HPG HWF heq hh HPE htc q0 q1 q2
                  go_wp2
                  go_quiet (fail)
                  go_wp2
                  go_roundw
                  case rel => exact ⟨i + 1, j + 1, R, by omega, by go_num, by go_num, by omega, hRl, hM1.out.below (below_drewN (Below.refl _ _) _), F, G⟩
                  case measure => simp [intOf]; omega
                · have F := Lib.hid (m_n EP.out ET.out EX.out EA.out (show fitsL p t x (regs16 x) = none by rw [HFo.out, List.drop_eq_getElem_cons hjt, fits_cell_no hh heq]))
                  clear HFo HPG HWF hh HPE htc q0 q1 q2
                  generalize t[j] = z at *
                  by_cases hk : z.kind = y.kind
                  · by_cases hn : z.n = y.n
                    · have htx : (z.text.toList == y.text.toList) = false := text_ne heq hk hn
                      rw [hk] at t0
                      rw [hn] at t1
                      clear heq hk hn
                      go_wp2
                      go_quiet (fail)
                      go_wp2
                      refine bodyPost_ret (results_tmp3 rfl _ _ _) rfl ?_
                      exact MatchPost.no F.out (hM1.out.below (below_drewN (Below.refl _ _) _)).bel
                    · have htx : (z.n == y.n) = false := beq_eq_false_iff_ne.2 hn
                      rw [hk] at t0
                      clear heq hk
                      go_wp2
                      go_quiet (fail)
                      go_wp2
                      refine bodyPost_ret (results_tmp3 rfl _ _ _) rfl ?_
                      exact MatchPost.no F.out (hM1.out.below (below_drewN (Below.refl _ _) _)).bel
                  · have htx : (z.kind == y.kind) = false := beq_eq_false_iff_ne.2 hk
                    clear heq
                    go_wp2
                    go_quiet (fail)
                    go_wp2
                    refine bodyPost_ret (results_tmp3 rfl _ _ _) rfl ?_
                    exact MatchPost.no F.out (hM1.out.below (below_drewN (Below.refl _ _) _)).bel
              · have hkk := hole_kids hh
                have hr16 := hole_reg HPE.out hh
                obtain ⟨hE1, hE2, hE3⟩ := endE_suffix HWF.out hoo hjt
                have HPART := Lib.hid (take_span j 1 hE2)
                have HSK := Lib.hid (drop_span (l := t) j 1)
                have HWS := Lib.hid (show Wf (skipK (t.drop j) 1) (oo - 1) from by simpa using HWF.out.skip (k := 1) (by omega))
                generalize hm : j + spanK (t.drop j) 1 = m at *
                have HM := Lib.hid hm
                clear hm
                go_wp2_with fail
                refine (pbehind_any t (some ⟨b2, o2, none⟩) ct j m _ (HT.out.below hM1.out.bel) hlt (by omega) hE1).mono ?_
                rintro e' w3 ⟨rfl, hb3⟩
                have k0 := cell_below hb3 (a := ⟨wr.heap.size, 0, none⟩) (v := .int .i64 y.kind) (by go_cell)
                have k1 := cell_below hb3 (a := ⟨wr.heap.size, 1, none⟩) (v := .int .i64 y.n) (by go_cell)
                have k2 := cell_below hb3 (a := ⟨wr.heap.size, 2, none⟩) (v := .string y.text) (by go_cell)
                have hM3 := Lib.hid (hM1.out.below hb3)
                have hq : og < wr.heap.size := by obtain ⟨vs, h⟩ := hMr.out.outs; exact h.lt
                have hjm : (j : Int) ≤ (m : Int) := by omega
                have hmc : (m : Int) ≤ (ct : Int) := by omega
                have hjc : ¬ ct = j := by omega
                have HRP := Lib.hid (show Reads w3.drew (some ⟨b2, o2 + j * 3, none⟩) ((t.drop j).take (spanK (t.drop j) 1)) from ((HT.out.below (hM3.out.bel.drew)).drop j).take _)
                have hpn : ((t.drop j).take (spanK (t.drop j) 1)).length = m - j := by rw [List.length_take, List.length_drop]; have := HM.out; omega
                have hp1 : ((t.drop j).take (spanK (t.drop j) 1)).length ≤ 1024 := by rw [hpn]; omega
                have HPN := Lib.hid hpn
                clear hpn hE1 hb3 htc1 htc q0 q1 q2 hB
                obtain ⟨part, hpart⟩ : ∃ part, (t.drop j).take (spanK (t.drop j) 1) = part := ⟨_, rfl⟩
                have HQ := Lib.hid hpart
                rw [hpart] at HRP hp1 HPN
                clear hpart
                obtain ⟨vs, hO⟩ := hM3.out.drew.outs
                have HO := Lib.hid hO
                have hob := hM3.out.drew.ob
                have hxb := hM3.out.drew.xb
                have HOB := Lib.hid hob
                have HXB2 := Lib.hid hxb
                have HX3 := Lib.hid (HX.out.below hM3.out.drew.bel)
                have hwl : og ≤ w3.drew.heap.size := Nat.le_of_lt hO.lt
                clear hO hob hxb
                obtain ⟨yk, yn, yt⟩ := y
                obtain ⟨mm, rfl⟩ : ∃ mm : Nat, yn = mm := ⟨yn.toNat, by have := hr16.1; simp only at this; omega⟩
                have hmm : mm < 16 := by have := hr16.2; simp only at this; omega
                rcases hole_of hh with hk | hk | hk
                · simp only at hk
                  subst hk
                  have F := Lib.hid (show fitsL p t x (regs16 x) = fitsL (p.drop (i + 1)) (t.drop m) x R by rw [HFo.out, fits_any rfl, HSK.out])
                  have G := Lib.hid (show ∃ o : Int, PGood (p.drop (i + 1)) o ∧ Wf (t.drop m) o from ⟨oo - 1, by have h := HPG.out; rw [hkk] at h; simpa using h, by rw [HSK.out]; exact HWS.out⟩)
                  clear HFo HPG HWF HWS hh HPE hkk
                  go_wp2_with fail
                  go_region_held3 (fun w' => w'.cell? ⟨wr.heap.size, 0, none⟩ = some (.int .i64 11) ∧ w'.cell? ⟨wr.heap.size, 1, none⟩ = some (.int .i64 mm) ∧ w'.cell? ⟨wr.heap.size, 2, none⟩ = some (.string yt))
                    (first
                      | exact ⟨cell_below hbc k0, cell_below hbc k1, cell_below hbc k2⟩
                      | go_keep)
                    ((go_at_call 122; refine (held_any (mm : Int) yt _ _ _ _).mono ?_; rintro e' wc ⟨rfl, hbc⟩))
                  have HMn := Lib.hid (hM3.out.drew.below hbc)
                  go_wp2
                  go_roundw
                  case rel => exact ⟨i + 1, m, R, by omega, by go_num, rfl, by omega, by simp [hRl], HMn, F, G⟩
                  case measure => simp [intOf]; omega
                · simp only at hk
                  subst hk
                  have F := Lib.hid (show fitsL p t x (regs16 x) = fitsL (p.drop (i + 1)) (t.drop m) x (R.set mm part) by rw [HFo.out, fits_bind rfl, HSK.out, HQ.out]; rfl)
                  have G := Lib.hid (show ∃ o : Int, PGood (p.drop (i + 1)) o ∧ Wf (t.drop m) o from ⟨oo - 1, by have h := HPG.out; rw [hkk] at h; simpa using h, by rw [HSK.out]; exact HWS.out⟩)
                  clear HFo HPG HWF HWS hh HPE hkk
                  have hnq : wr.heap.size ≠ og := by omega
                  go_wp2_with fail
                  go_region_held3 (fun w' => w'.cell? ⟨wr.heap.size, 0, none⟩ = some (.int .i64 12) ∧ w'.cell? ⟨wr.heap.size, 1, none⟩ = some (.int .i64 mm) ∧ w'.cell? ⟨wr.heap.size, 2, none⟩ = some (.string yt))
                    (first
                      | exact ⟨grown_cell hbc k0 hnq, grown_cell hbc k1 hnq, grown_cell hbc k2 hnq⟩
                      | go_keep)
                    ((go_at_call 122; refine (held_bind mm hmm yt part _ HPN.out _ _ (og + 1) w.heap.size og og vs R _ HRP.out hp1 HOB.out HO.out hRl hwl (by omega)).mono ?_; rintro e' wc ⟨rfl, hOn, hbc⟩))
                  have HMn := Lib.hid (hM3.out.drew.grown hOn hbc)
                  go_wp2
                  go_roundw
                  case rel => exact ⟨i + 1, m, R.set mm part, by omega, by go_num, rfl, by omega, by simp [hRl], HMn, F, G⟩
                  case measure => simp [intOf]; omega
                · simp only at hk
                  subst hk
                  have hmx : mm < x.length := by
                    rcases Nat.lt_or_ge mm x.length with h1 | h1
                    · exact h1
                    · exfalso
                      have h := EA.out
                      unfold asksSet at h
                      rw [List.all_eq_true] at h
                      have h2 := h _ HMEM.out
                      simp [regD_out (x := x) (n := (mm : Int)) (by omega)] at h2
                  by_cases hps : part = x[mm]
                  · have F := Lib.hid (show fitsL p t x (regs16 x) = fitsL (p.drop (i + 1)) (t.drop m) x R by rw [HFo.out, fits_same_yes rfl (by rw [HQ.out]; simp only; rw [regD_in hmx]; exact hps), HSK.out])
                    have G := Lib.hid (show ∃ o : Int, PGood (p.drop (i + 1)) o ∧ Wf (t.drop m) o from ⟨oo - 1, by have h := HPG.out; rw [hkk] at h; simpa using h, by rw [HSK.out]; exact HWS.out⟩)
                    have hd : decide (part = x[mm]) = true := decide_eq_true hps
                    have HD := Lib.hid hd
                    clear HFo HPG HWF HWS hh HPE hkk hps hd
                    go_wp2_with fail
                    go_region_held3 (fun w' => w'.cell? ⟨wr.heap.size, 0, none⟩ = some (.int .i64 13) ∧ w'.cell? ⟨wr.heap.size, 1, none⟩ = some (.int .i64 mm) ∧ w'.cell? ⟨wr.heap.size, 2, none⟩ = some (.string yt))
                      (first
                        | exact ⟨cell_below hbc k0, cell_below hbc k1, cell_below hbc k2⟩
                        | go_keep)
                      ((go_at_call 122; refine (held_same 0 mm yt part _ HPN.out _ _ (og + 1) w.heap.size x C cx _ HRP.out hp1 HXB2.out HX3.out HFX.out hmx).mono ?_; rintro e' wc ⟨rfl, hbc⟩; rw [HD.out]))
                    have HMn := Lib.hid (hM3.out.drew.below hbc)
                    go_wp2
                    go_roundw
                    case rel => exact ⟨i + 1, m, R, by omega, by go_num, rfl, by omega, by simp [hRl], HMn, F, G⟩
                    case measure => simp [intOf]; omega
                  · have F := Lib.hid (m_n EP.out ET.out EX.out EA.out (show fitsL p t x (regs16 x) = none by rw [HFo.out, fits_same_no rfl (by rw [HQ.out]; simp only; rw [regD_in hmx]; exact hps)]))
                    have hd : decide (part = x[mm]) = false := decide_eq_false hps
                    have HD := Lib.hid hd
                    clear HFo HPG HWF HWS hh HPE hkk hps hd
                    go_wp2_with fail
                    go_region_held3 (fun w' => w'.cell? ⟨wr.heap.size, 0, none⟩ = some (.int .i64 13) ∧ w'.cell? ⟨wr.heap.size, 1, none⟩ = some (.int .i64 mm) ∧ w'.cell? ⟨wr.heap.size, 2, none⟩ = some (.string yt))
                      (first
                        | exact ⟨cell_below hbc k0, cell_below hbc k1, cell_below hbc k2⟩
                        | go_keep)
                      ((go_at_call 122; refine (held_same 0 mm yt part _ HPN.out _ _ (og + 1) w.heap.size x C cx _ HRP.out hp1 HXB2.out HX3.out HFX.out hmx).mono ?_; rintro e' wc ⟨rfl, hbc⟩; rw [HD.out]))
                    have HMn := Lib.hid (hM3.out.drew.below hbc)
                    go_wp2
                    refine bodyPost_ret (results_tmp3 rfl _ _ _) rfl ?_
                    exact MatchPost.no F.out HMn.out.bel
            · obtain rfl : i = p.length := by omega
              have F := Lib.hid (m_y EP.out ET.out EX.out EA.out (show fitsL p t x (regs16 x) = some R by rw [hFr.out, List.drop_length]; rfl))
              have hob := hMr.out.ob
              have HB := Lib.hid hMr.out.bel
              obtain ⟨vs, hO⟩ := hMr.out.outs
              have HO := Lib.hid (hO.base_ (Nat.le_of_lt hlow))
              clear hO hFr hGr hMr
              go_wp2
              refine bodyPost_ret (results_tmp3 rfl _ _ _) rfl ?_
              rw [F.out]
              exact ⟨_, rfl, .inr ⟨og, vs, rfl, hRl, HO.out⟩, HB.out⟩
end Go.Proofs.YtefpolgflimlgaaDoor.Tm
