/- pattern.Right: prightE (faults are thrown, and caught by a deferred call). -/
import Derived.Test.YtefpolgflimlgaaDoorPatC
import Derived.Test.YtefpolgflimlgaaDoorPatN
namespace Go.Proofs.YtefpolgflimlgaaDoor.Tm
open Go.RowKit
set_option linter.unusedVariables false
set_option linter.unusedSimpArgs false

/-- What Right's frame holds: the two answers, the array. -/
structure RGAt (W : World) (s : Nat) (pre : List CellD) : Prop where
  b0 : W.heap[s]? = some (.cells #[.int .i64 0] 23 (0, 0))
  b1 : W.heap[s + 1]? = some (.cells #[.int .i64 0] 3 (0, 0))
  b2 : BoolsAt W (s + 1 + 1) (boundB pre)
section
variable {W V : World} {s : Nat} {pre : List CellD}
theorem RGAt.below (h : RGAt W s pre) (hB : Below W.heap.size W V) : RGAt V s pre := ⟨(hB.block _ (lt_of_block h.b0)).trans h.b0, (hB.block _ (lt_of_block h.b1)).trans h.b1, h.b2.below hB⟩
theorem RGAt.c0 (h : RGAt W s pre) : W.cell? ⟨s, 0, none⟩ = some (.int .i64 0) := by simp [World.cell?, h.b0]
theorem RGAt.c1 (h : RGAt W s pre) : W.cell? ⟨s + 1, 0, none⟩ = some (.int .i64 0) := by simp [World.cell?, h.b1]
theorem RGAt.f0 (h : RGAt W s pre) : W.frozen? ⟨s, 0, none⟩ = false := by simp [World.frozen?, h.b0]
theorem RGAt.f1 (h : RGAt W s pre) : W.frozen? ⟨s + 1, 0, none⟩ = false := by simp [World.frozen?, h.b1]
theorem RGAt.f2 (h : RGAt W s pre) (m : Nat) : W.frozen? ⟨s + 1 + 1, m, none⟩ = false := h.b2.free m
theorem RGAt.c2 (h : RGAt W s pre) {m : Nat} (hm : m < 16) : W.cell? ⟨s + 1 + 1, m, none⟩ = some (.bool (boundB pre (m : Int))) := h.b2.cell hm
theorem bound_fun {c : CellD} : (fun n => boundB pre n || regK 12 c n) = boundB (pre ++ [c]) := by
  funext n
  simp [boundB, regK]
theorem RGAt.set_ (h : RGAt W s pre) {m : Nat} {c : CellD} (hm : m < 16) (k : c.kind = 12) (e : c.n = m) : RGAt (W.setCell ⟨s + 1 + 1, m, none⟩ (.bool true)) s (pre ++ [c]) :=
  ⟨(Below.heap_setCell _ _ _ _ (by simp; omega)).trans h.b0, (Below.heap_setCell _ _ _ _ (by simp)).trans h.b1, (h.b2.set_ hm k e).congr bound_fun⟩
theorem RGAt.next (h : RGAt W s pre) {c : CellD} (k : c.kind ≠ 12) : RGAt W s (pre ++ [c]) := ⟨h.b0, h.b1, (h.b2.same (k := 12) (x := c) (fun e => k e.1)).congr bound_fun⟩
end
theorem rg_new (w : World) : RGAt (((w.alloc (.cells #[.int .i64 0] 23)).alloc (.cells #[.int .i64 0] 3)).alloc (.cells (boolsF (boundB [])) 148)) w.heap.size [] := by
  have h0 := heap_new w (.cells #[.int .i64 0] 23)
  have h1 := heap_new (w.alloc (.cells #[.int .i64 0] 23)) (.cells #[.int .i64 0] 3)
  have h2 := heap_new ((w.alloc (.cells #[.int .i64 0] 23)).alloc (.cells #[.int .i64 0] 3)) (.cells (boolsF (boundB [])) 148)
  rw [World.size_alloc] at h1 h2
  rw [World.size_alloc] at h2
  exact ⟨((below_one _ _).block _ (by rw [World.size_alloc, World.size_alloc]; omega)).trans (((below_one _ _).block _ (by rw [World.size_alloc]; omega)).trans h0), ((below_one _ _).block _ (by rw [World.size_alloc, World.size_alloc]; omega)).trans h1, h2⟩

theorem two_new (w : World) : ((w.alloc (.cells #[.int .i64 0] 23)).alloc (.cells #[.int .i64 0] 3)).heap[w.heap.size]? = some (.cells #[.int .i64 0] 23 (0, 0)) ∧ ((w.alloc (.cells #[.int .i64 0] 23)).alloc (.cells #[.int .i64 0] 3)).heap[w.heap.size + 1]? = some (.cells #[.int .i64 0] 3 (0, 0)) := by
  have h0 := heap_new w (.cells #[.int .i64 0] 23)
  have h1 := heap_new (w.alloc (.cells #[.int .i64 0] 23)) (.cells #[.int .i64 0] 3)
  rw [World.size_alloc] at h1
  exact ⟨((below_one _ _).block _ (by rw [World.size_alloc]; omega)).trans h0, h1⟩
/-- A fault goes through the door: its two numbers are the answers. -/
theorem right_out {R : Ending → World → Prop} {T : Array Value} {s : Nat} {W : World} {why at_ : Int} (h0 : W.heap[s]? = some (.cells #[.int .i64 0] 23 (0, 0))) (h1 : W.heap[s + 1]? = some (.cells #[.int .i64 0] 3 (0, 0)))
    (t2 : T.getD 2 undef = .pointer (some ⟨s, 0, none⟩)) (t3 : T.getD 3 undef = .pointer (some ⟨s + 1, 0, none⟩)) (hR : ∀ W', Below s W W' → R (.returned (.tuple #[.int .i64 why, .int .i64 at_])) W') :
    bodyPostD Tryd.prog Tryd.f71 R (.panic [{ v := faultV why at_, recovered := false }])
      { tmps := T, defers := [{ target := .fn (.func 131) #[], args := #[.pointer (some ⟨s, 0, none⟩), .pointer (some ⟨s + 1, 0, none⟩)] }] } W := by
  have c0 : W.cell? ⟨s, 0, none⟩ = some (.int .i64 0) := by simp [World.cell?, h0]
  have c1 : W.cell? ⟨s + 1, 0, none⟩ = some (.int .i64 0) := by simp [World.cell?, h1]
  have f0 : W.frozen? ⟨s, 0, none⟩ = false := by simp [World.frozen?, h0]
  have f1 : W.frozen? ⟨s + 1, 0, none⟩ = false := by simp [World.frozen?, h1]
  refine leaves_cons (f := 131) (args := #[.pointer (some ⟨s, 0, none⟩), .pointer (some ⟨s + 1, 0, none⟩)]) (by simp) (by simp [go_sem]) ?_
  refine (caught_panic s (s + 1) why at_ 0 0 [] W (by omega) c0 c1 f0 f1).mono ?_
  rintro e u' w'' ⟨rfl, rfl, d0, d1, hd⟩
  have t2' : T[2]?.getD undef = .pointer (some ⟨s, 0, none⟩) := by simpa using t2
  have t3' : T[3]?.getD undef = .pointer (some ⟨s + 1, 0, none⟩) := by simpa using t3
  simp [Leaves, settle, results, Tryd.results71, go_sem, t2', t3', d0, d1]
  exact hR _ (hd s (Nat.le_refl _) (by omega) (by have := cell_lt c0; simp at this; omega))
/-- No fault: the answers are what lies there. -/
theorem right_end {R : Ending → World → Prop} {T : Array Value} {s : Nat} {W : World} {why at_ : Int} (c0 : W.cell? ⟨s, 0, none⟩ = some (.int .i64 why)) (c1 : W.cell? ⟨s + 1, 0, none⟩ = some (.int .i64 at_))
    (t2 : T.getD 2 undef = .pointer (some ⟨s, 0, none⟩)) (t3 : T.getD 3 undef = .pointer (some ⟨s + 1, 0, none⟩)) (hR : R (.returned (.tuple #[.int .i64 why, .int .i64 at_])) W) :
    bodyPostD Tryd.prog Tryd.f71 R .ret
      { tmps := T, defers := [{ target := .fn (.func 131) #[], args := #[.pointer (some ⟨s, 0, none⟩), .pointer (some ⟨s + 1, 0, none⟩)] }] } W := by
  refine leaves_cons (f := 131) (args := #[.pointer (some ⟨s, 0, none⟩), .pointer (some ⟨s + 1, 0, none⟩)]) (by simp) (by simp [go_sem]) ?_
  refine (caught_idle s (s + 1) W).mono ?_
  rintro e u' w'' ⟨rfl, rfl, rfl⟩
  have t2' : T[2]?.getD undef = .pointer (some ⟨s, 0, none⟩) := by simpa using t2
  have t3' : T[3]?.getD undef = .pointer (some ⟨s + 1, 0, none⟩) := by simpa using t3
  simp [Leaves, settle, results, Tryd.results71, go_sem, t2', t3', c0, c1]
  exact hR
set_option maxRecDepth 100000 in
set_option maxHeartbeats 4000000 in
theorem pright_any (p : List CellD) (A : Option Addr) (c : Nat) (w : World) (hr : Reads w A p) (hf : Fine p) (hT : Tabs w) :
    Calls Tryd.prog 71 #[.slice A p.length c] w fun e w' => e = .returned (.tuple #[.int .i64 (prightE p).1, .int .i64 (prightE p).2]) ∧ Below w.heap.size w w' := by
  have hl := hf.lim
  have HB0 := Lib.hid (below_then (below_one w (.cells #[.int .i64 0] 23)) (below_one _ (.cells #[.int .i64 0] 3)))
  have H2 := Lib.hid (two_new w)
  by_cases h0 : p.length = 0
  · have H := Lib.hid (show prightE p = (5, 0) by rw [prightE, if_pos h0])
    clear hr hf
    go_enter_defers Tryd.func71, Tryd.ntmps71
    go_wp2
    exact right_out H2.out.1 H2.out.2 rfl rfl fun W' hb => ⟨by rw [H.out], HB0.out.trans hb⟩
  have hb0 : ((p.length : Int) == 0) = false := beq_eq_false_iff_ne.2 (by omega)
  by_cases h1 : 256 < p.length
  · have H := Lib.hid (show prightE p = (7, 0) by rw [prightE, if_neg h0, if_pos h1])
    clear hr hf h0
    go_enter_defers Tryd.func71, Tryd.ntmps71
    go_wp2
    exact right_out H2.out.1 H2.out.2 rfl rfl fun W' hb => ⟨by rw [H.out], HB0.out.trans hb⟩
  have hb1 : decide (256 < (p.length : Int)) = false := decide_eq_false (by omega)
  have H := Lib.hid (show prightE p = prightL (p.take 0) (p.drop 0) 1 by rw [prightE, if_neg h0, if_neg h1]; rfl)
  have HR := Lib.hid hr
  have HF := Lib.hid hf
  have HT := Lib.hid hT
  have h1' : p.length ≤ 256 := by omega
  clear hr hf h0 h1 hT
  go_enter_defers Tryd.func71, Tryd.ntmps71
  go_wp2_with fail
  go_loopw [4, 23] (fun ov i wr => ∃ (j : Nat) (o : Int), j ≤ p.length ∧ i = .int .i64 j ∧ ov = .int .i64 o ∧ 0 ≤ o ∧ o ≤ 1 + 255 * (j : Int) ∧ Below w.heap.size w wr ∧ Hid (RGAt wr w.heap.size (p.take j)) ∧ Hid (prightE p = prightL (p.take j) (p.drop j) o)) (fun ov i wr => p.length - (intOf i).toNat)
  case atStart => exact ⟨0, 1, Nat.zero_le _, rfl, rfl, by omega, by omega, below_then HB0.out (below_one _ _), rg_new w, H⟩
  case round =>
    obtain ⟨j, o, hj, rfl, rfl, ho0, ho1, hB, hG, hH⟩ := hrel
    by_cases hlt : j < p.length
    · obtain ⟨b, o', hA, ht⟩ := HR.out j hlt
      subst hA
      obtain ⟨q0, q1, q2⟩ := ht.below hB
      have hfj := HF.out.text j hlt
      have hi1 : (j : Int) < (p.length : Int) := by omega
      have hi0 : (0 : Int) ≤ (j : Int) := Int.natCast_nonneg _
      have LB := Lib.hid (pr_bad (o := o) hlt)
      have LT := Lib.hid (pr_twice (o := o) hlt)
      have LM := Lib.hid (pr_more (o := o) hlt)
      have LN := Lib.hid (pr_next (o := o) hlt)
      have hk := kidsD_le p[j]
      have TK := Lib.hid (List.take_succ_eq_append_getElem hlt)
      have HTB := Lib.hid (Utf8Tabs_below HT.out hB)
      generalize p[j] = x at *
      clear ht H
      go_wp2_with fail
      refine (pcell_any x _ hfj (Utf8Tabs_below HTB.out (below_one _ _))).mono ?_
      rintro e w1 ⟨rfl, hb⟩
      have hB1 := below_then (below_alloc' hB (.cells #[.int .i64 x.kind, .int .i64 x.n, .string x.text] 95)) hb
      have p0 := cell_below hb (a := ⟨wr.heap.size, 0, none⟩) (v := .int .i64 x.kind) (by go_cell)
      have p1 := cell_below hb (a := ⟨wr.heap.size, 1, none⟩) (v := .int .i64 x.n) (by go_cell)
      have p2 := cell_below hb (a := ⟨wr.heap.size, 2, none⟩) (v := .string x.text) (by go_cell)
      have hsz := hB.size
      have hlt2 := lt_of_block hG.out.b2
      have HG1 := Lib.hid ((hG.out.below (below_one wr (.cells #[.int .i64 x.kind, .int .i64 x.n, .string x.text] 95))).below hb)
      clear hb hB hG q0 q1 q2 HTB
      by_cases he : patE x = 0
      · have he' : (patE x != 0) = false := by rw [bne_eq_false_iff_eq]; exact he
        have HE := Lib.hid he
        clear LB
        by_cases k12 : x.kind = 12
        · have hr16 := hole_reg he (by rw [k12]; rfl)
          obtain ⟨m, hm⟩ : ∃ m : Nat, x.n = m := ⟨x.n.toNat, by omega⟩
          have hm16 : m < 16 := by omega
          have cm := HG1.out.c2 hm16
          have fm := HG1.out.f2 m
          have G2 := Lib.hid (HG1.out.set_ hm16 k12 hm)
          have GB := Lib.hid (hB1.setCell (p := ⟨w.heap.size + 1 + 1, m, none⟩) (show w.heap.size ≤ w.heap.size + 1 + 1 by omega) (.bool true))
          have e12 : (x.kind == 12) = true := by simp [k12]
          obtain ⟨xk, xn, xt⟩ := x
          simp only at hm k12 he he' LT LM LN HE e12 hk hfj p0 p1 p2 HG1 cm fm G2 GB hr16 TK
          subst hm k12
          cases hbb : boundB (p.take j) (m : Int)
          · have HBB := Lib.hid (show ¬ ((12 : Int) = 12 ∧ boundB (p.take j) (m : Int) = true) from fun e => by rw [hbb] at e; cases e.2)
            rw [hbb] at cm
            rw [← TK.out] at G2
            have hne : w.heap.size + 1 + 1 ≠ wr.heap.size := by omega
            have s0 := (World.cell?_setCell_far w1 ⟨w.heap.size + 1 + 1, m, none⟩ ⟨wr.heap.size, 0, none⟩ (.bool true) hne).trans p0
            have s1 := (World.cell?_setCell_far w1 ⟨w.heap.size + 1 + 1, m, none⟩ ⟨wr.heap.size, 1, none⟩ (.bool true) hne).trans p1
            have s2 := (World.cell?_setCell_far w1 ⟨w.heap.size + 1 + 1, m, none⟩ ⟨wr.heap.size, 2, none⟩ (.bool true) hne).trans p2
            have hm0 : (0 : Int) ≤ (m : Int) := Int.natCast_nonneg _
            have hm1 : (m : Int) < 16 := by omega
            by_cases oz : o = 0
            · have F := Lib.hid (hH.out.trans (LM.out HE.out HBB.out oz))
              clear LT LM LN hH he hbb
              go_wp2
              exact right_out G2.out.b0 G2.out.b1 rfl rfl fun W' hb => ⟨by rw [F.out], GB.out.trans hb⟩
            · have F := Lib.hid (hH.out.trans (LN.out HE.out HBB.out oz))
              have oz' : (o == 0) = false := beq_eq_false_iff_ne.2 oz
              have oz1 : 1 ≤ o := by omega
              clear LT LM LN hH oz he HG1 hbb
              go_wp2_with fail
              refine (pparts_any ⟨12, (m : Int), xt⟩ _).mono ?_
              rintro e w3 ⟨rfl, hb3⟩
              have HG3 := Lib.hid (G2.out.below hb3)
              go_wp2
              go_roundw
              case rel => exact ⟨j + 1, o - 1 + kidsD ⟨12, (m : Int), xt⟩, by omega, by go_num, by go_num, by omega, by omega, below_then GB.out hb3, HG3, F⟩
              case measure => simp [intOf]; omega
          · have F := Lib.hid (hH.out.trans (LT.out HE.out rfl hbb))
            rw [hbb] at cm
            have hm0 : (0 : Int) ≤ (m : Int) := Int.natCast_nonneg _
            have hm1 : (m : Int) < 16 := by omega
            clear LT LM LN hH he hbb
            go_wp2
            exact right_out HG1.out.b0 HG1.out.b1 rfl rfl fun W' hb => ⟨by rw [F.out], hB1.trans hb⟩
        · have e12 : (x.kind == 12) = false := beq_eq_false_iff_ne.2 k12
          have HG2 := Lib.hid (HG1.out.next k12)
          rw [← TK.out] at HG2
          by_cases oz : o = 0
          · have F := Lib.hid (hH.out.trans (LM.out HE.out (fun e => k12 e.1) oz))
            clear LT LM LN hH k12 he
            go_wp2
            exact right_out HG1.out.b0 HG1.out.b1 rfl rfl fun W' hb => ⟨by rw [F.out], hB1.trans hb⟩
          · have F := Lib.hid (hH.out.trans (LN.out HE.out (fun e => k12 e.1) oz))
            have oz' : (o == 0) = false := beq_eq_false_iff_ne.2 oz
            have oz1 : 1 ≤ o := by omega
            clear LT LM LN hH k12 oz he HG1
            go_wp2_with fail
            refine (pparts_any x _).mono ?_
            rintro e w3 ⟨rfl, hb3⟩
            have HG3 := Lib.hid (HG2.out.below hb3)
            go_wp2
            go_roundw
            case rel => exact ⟨j + 1, o - 1 + kidsD x, by omega, by go_num, by go_num, by omega, by omega, below_then hB1 hb3, HG3, F⟩
            case measure => simp [intOf]; omega
      · have he' : (patE x != 0) = true := by rw [bne_iff_ne]; exact he
        have F := Lib.hid (hH.out.trans (LB.out he))
        clear he LB LT LM LN hH
        generalize patE x = E at *
        go_wp2
        exact right_out HG1.out.b0 HG1.out.b1 rfl rfl fun W' hb => ⟨by rw [F.out], hB1.trans hb⟩
    · obtain rfl : j = p.length := by omega
      have c0 := hG.out.c0
      have c1 := hG.out.c1
      have f0 := hG.out.f0
      have f1 := hG.out.f1
      by_cases oz : 0 < o
      · have F := Lib.hid (hH.out.trans (pr_short oz))
        clear hH H
        go_wp2
        exact right_out hG.out.b0 hG.out.b1 rfl rfl fun W' hb => ⟨by rw [F.out], hB.trans hb⟩
      · have F := Lib.hid (hH.out.trans (pr_done oz))
        have oz' : decide (0 < o) = false := decide_eq_false oz
        clear hH H oz
        go_wp2
        have hne : (⟨w.heap.size + 1, 0, none⟩ : Addr) ≠ ⟨w.heap.size, 0, none⟩ := fun e => by injection e with e _; omega
        have d0 : (wr.setCell ⟨w.heap.size, 0, none⟩ (.int .i64 0)).cell? ⟨w.heap.size, 0, none⟩ = some (.int .i64 0) := World.cell?_setCell_same _ _ _ c0
        have d1 : (wr.setCell ⟨w.heap.size, 0, none⟩ (.int .i64 0)).cell? ⟨w.heap.size + 1, 0, none⟩ = some (.int .i64 0) := (World.cell?_setCell_far wr ⟨w.heap.size, 0, none⟩ ⟨w.heap.size + 1, 0, none⟩ _ (by simp)).trans c1
        exact right_end ((World.cell?_setCell_far _ ⟨w.heap.size + 1, 0, none⟩ ⟨w.heap.size, 0, none⟩ _ (by simp)).trans d0) (World.cell?_setCell_same _ _ _ d1) rfl rfl ⟨by rw [F.out], (hB.setCell (p := ⟨w.heap.size, 0, none⟩) (Nat.le_refl _) _).setCell (p := ⟨w.heap.size + 1, 0, none⟩) (show w.heap.size ≤ w.heap.size + 1 by omega) _⟩
end Go.Proofs.YtefpolgflimlgaaDoor.Tm
