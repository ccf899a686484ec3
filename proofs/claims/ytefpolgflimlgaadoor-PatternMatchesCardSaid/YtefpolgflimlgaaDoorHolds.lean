/- Holds, of both texts: holdsE. -/
import Derived.Test.YtefpolgflimlgaaDoorGdB
import Derived.Deep.RegionHeld3
import Derived.Deep.DeepCutAuto
import Derived.Deep.DrawnRows
namespace Go.Proofs.YtefpolgflimlgaaDoor.Tm
open Go.RowKit
set_option linter.unusedVariables false
set_option linter.unusedSimpArgs false

theorem regs_bad {x : List (List CellD)} {j : Nat} (h : j < x.length) (e : 0 < x[j].length) (k : (rightE x[j]).1 ≠ 0) : regsE (x.drop j) = (rightE x[j]).1 := by
  rw [List.drop_eq_getElem_cons h, regsE, if_pos ⟨e, k⟩]
theorem regs_next {x : List (List CellD)} {j : Nat} (h : j < x.length) (e : ¬ (0 < x[j].length ∧ (rightE x[j]).1 ≠ 0)) : regsE (x.drop j) = regsE (x.drop (j + 1)) := by
  rw [List.drop_eq_getElem_cons h, regsE, if_neg e]
theorem regs_done {x : List (List CellD)} {j : Nat} (h : x.length ≤ j) : regsE (x.drop j) = 0 := by
  rw [List.drop_eq_nil_of_le h, regsE]
theorem holds_g {g : List TestD} {x : List (List CellD)} (h : guardE g ≠ 0) : holdsE g x = (false, guardE g) := by rw [holdsE, if_pos h]
theorem holds_l {g : List TestD} {x : List (List CellD)} (h : guardE g = 0) (k : 16 < x.length) : holdsE g x = (false, 1) := by rw [holdsE, if_neg (by simp [h]), if_pos k]
theorem holds_r {g : List TestD} {x : List (List CellD)} (h : guardE g = 0) (k : ¬ 16 < x.length) (r : regsE x ≠ 0) : holdsE g x = (false, regsE x) := by rw [holdsE, if_neg (by simp [h]), if_neg k, if_pos r]
theorem holds_a {g : List TestD} {x : List (List CellD)} (h : guardE g = 0) (k : ¬ 16 < x.length) (r : regsE x = 0) : holdsE g x = (g.all (holdB x), 0) := by rw [holdsE, if_neg (by simp [h]), if_neg k, if_neg (by simp [r])]
set_option maxRecDepth 100000 in
set_option maxHeartbeats 4000000 in
theorem rHolds_any (g : List TestD) (x : List (List CellD)) (A B : Option Addr) (c d : Nat) (w : World) (hr : TReads w A g) (hf : FineT g) (hx : Reads2 w B x) (hfx : Fine2 x) (hl : x.length ≤ 1000000000000000) :
    Calls Tryd.prog 41 #[.slice A g.length c, .slice B x.length d] w fun e w' => e = .returned (.tuple #[.bool (holdsE g x).1, .int .i64 (holdsE g x).2]) ∧ Below w.heap.size w w' := by
  have hgl := hf.len
  have HR := Lib.hid hr
  have HF := Lib.hid hf
  have HX := Lib.hid hx
  have HFX := Lib.hid hfx
  clear hr hf hx hfx
  go_enter Tryd.func41, Tryd.ntmps41
  go_wp2_with fail
  refine (rRight9_any g A c _ HR.out HF.out).mono ?_
  rintro e w1 ⟨rfl, hB1⟩
  by_cases he : guardE g = 0
  · have ht : (guardE g != 0) = false := by rw [bne_eq_false_iff_eq]; exact he
    by_cases h16 : 16 < x.length
    · have F := Lib.hid (holds_l he h16)
      clear he
      go_wp2
      go_ret2
      exact ⟨by rw [F.out]; rfl, hB1⟩
    have hb16 : decide (16 < (x.length : Int)) = false := decide_eq_false (by omega)
    have HE := Lib.hid he
    clear he
    go_wp2_with fail
    go_loopw [6, 7] (fun ev i wr => ∃ (j : Nat) (k : Int), j ≤ x.length ∧ i = .int .i64 j ∧ ev = .int .i64 k ∧ Below w.heap.size w wr ∧ Hid (regsE x = regsE (x.drop j))) (fun ev i wr => x.length - (intOf i).toNat)
    case atStart => exact ⟨0, _, Nat.zero_le _, rfl, rfl, hB1, rfl⟩
    case round =>
      obtain ⟨j, k, hj, rfl, rfl, hB, hH⟩ := hrel
      by_cases hlt : j < x.length
      · obtain ⟨b, o, hA, Aj, cj, q0, q1, q2⟩ := HX.out j hlt
        subst hA
        have q0' := cell_below hB q0
        have hfj := Lib.hid (HFX.out j hlt)
        have hi1 : (j : Int) < (x.length : Int) := by omega
        have hi0 : (0 : Int) ≤ (j : Int) := Int.natCast_nonneg _
        have HBd := Lib.hid (regs_bad hlt)
        have HNx := Lib.hid (regs_next hlt)
        clear q0
        go_wp2_with fail
        refine (rright_any x[j] Aj cj _ (q2.below hB) hfj.out.text hfj.out.lim).mono ?_
        rintro e w2 ⟨rfl, hb⟩
        have hB2 := below_then hB hb
        have q0'' := cell_below hb q0'
        clear q0' hb
        have hln := hfj.out.lim
        by_cases hnn : 0 < x[j].length
        · by_cases hee : (rightE x[j]).1 = 0
          · have F := Lib.hid (hH.out.trans (HNx.out (fun e => e.2 hee)))
            have hte : ((rightE x[j]).1 != 0) = false := by rw [bne_eq_false_iff_eq]; exact hee
            have hnb : (0 : Int) < (x[j].length : Int) := by omega
            clear HBd HNx hH hee
            generalize (rightE x[j]).1 = E at *
            generalize x[j].length = n at *
            go_wp2
            go_roundw
            case rel => exact ⟨j + 1, _, by omega, by go_num, rfl, hB2, F⟩
            case measure => simp [intOf]; omega
          · have F := Lib.hid (hH.out.trans (HBd.out hnn hee))
            have F2 := Lib.hid (holds_r HE.out h16 (by rw [F.out]; exact hee))
            have hte : ((rightE x[j]).1 != 0) = true := by rw [bne_iff_ne]; exact hee
            have hnb : (0 : Int) < (x[j].length : Int) := by omega
            clear HBd HNx hH hee
            generalize (rightE x[j]).1 = E at *
            generalize x[j].length = n at *
            go_wp2
            go_ret2
            exact ⟨by rw [F2.out, F.out]; rfl, hB2⟩
        · have F := Lib.hid (hH.out.trans (HNx.out (fun e => hnn e.1)))
          have hnb : ¬ (0 : Int) < (x[j].length : Int) := by omega
          have hnz : x[j].length = 0 := by omega
          rw [hnz] at q0''
          clear HBd HNx hH hnb hnz hnn
          generalize (rightE x[j]).1 = E at *
          go_wp2
          go_roundw
          case rel => exact ⟨j + 1, _, by omega, by go_num, rfl, hB2, F⟩
          case measure => simp [intOf]; omega
      · have F := Lib.hid (hH.out.trans (regs_done (by omega)))
        have F2 := Lib.hid (holds_a HE.out h16 F.out)
        have hops := Lib.hid (fun j (h : j < g.length) => (test_parts ((guard_ok HE.out).2 j h)).1)
        clear hH
        go_wp2_with fail
        refine (rAll_any g x A B c d _ (HR.out.below hB) HF.out (HX.out.below hB) HFX.out hl hops.out).mono ?_
        rintro e w3 ⟨rfl, hb3⟩
        go_wp2
        go_ret2
        exact ⟨by rw [F2.out]; rfl, below_then hB hb3⟩
  · have ht : (guardE g != 0) = true := by rw [bne_iff_ne]; exact he
    have F := Lib.hid (holds_g (x := x) he)
    clear he
    go_wp2
    go_ret2
    exact ⟨by rw [F.out]; rfl, hB1⟩
theorem method_value (a : CellD) (w : World) : (method 340 (opTy a) (aggC a) "parley/guard.value").run Tryd.prog w = .ok (valueFn a, aggC a) w := by
  unfold opTy valueFn
  by_cases h1 : a.kind = 1
  · rw [if_pos h1, if_pos h1]; kernel_rfl
  rw [if_neg h1, if_neg h1]
  by_cases h3 : a.kind = 3
  · rw [if_pos h3, if_pos h3]; kernel_rfl
  rw [if_neg h3, if_neg h3]
  by_cases h4 : a.kind = 4
  · rw [if_pos h4, if_pos h4]; kernel_rfl
  rw [if_neg h4, if_neg h4]
  by_cases h5 : a.kind = 5
  · rw [if_pos h5, if_pos h5]; kernel_rfl
  rw [if_neg h5, if_neg h5]; kernel_rfl
theorem enter_value (a : CellD) (args : Array Value) (w : World) : (callFunc (valueFn a) args).run Tryd.prog w = .ok (.enter (valueFn a) args) w := by
  unfold valueFn
  by_cases h1 : a.kind = 1
  · rw [if_pos h1]; kernel_rfl
  rw [if_neg h1]
  by_cases h3 : a.kind = 3
  · rw [if_pos h3]; kernel_rfl
  rw [if_neg h3]
  by_cases h4 : a.kind = 4
  · rw [if_pos h4]; kernel_rfl
  rw [if_neg h4]
  by_cases h5 : a.kind = 5
  · rw [if_pos h5]; kernel_rfl
  rw [if_neg h5]; kernel_rfl
theorem alloc_swap {w : World} {o o' : Obj} {p : Addr} {v : Value} (h : (w.alloc o).cell? p = some v) (hp : p.block < w.heap.size) : (w.alloc o').cell? p = some v := by
  rw [World.cell?_alloc_lt w o p hp] at h
  rw [World.cell?_alloc_lt w o' p hp]; exact h
theorem below_swap {a w : World} {o o' : Obj} {B : Nat} (h : Below B a (w.alloc o)) (hp : B ≤ w.heap.size) : Below B a (w.alloc o') :=
  ⟨h.os, h.tape, h.output, by simpa using h.size, fun b hb => (Below.heap_alloc w o' b (by omega)).trans ((Below.heap_alloc w o b (by omega)).symm.trans (h.block b hb))⟩
/-- All old cells and marks read as before. -/
theorem bcell {W w1 : World} (hb : Below W.heap.size W w1) : (∀ b o, b < W.heap.size → w1.cell? ⟨b, o, none⟩ = W.cell? ⟨b, o, none⟩) ∧ (∀ b o, b < W.heap.size → w1.frozen? ⟨b, o, none⟩ = W.frozen? ⟨b, o, none⟩) :=
  ⟨fun b o h => hb.cell (p := ⟨b, o, none⟩) h, fun b o h => hb.frozen (p := ⟨b, o, none⟩) h⟩
theorem keep_new {P : Program} {f : FuncId} {args : Array Value} {W : World} {z0 z1 : Value} {T : TypeId} {R : Ending → World → Prop} (h : Calls P f args (W.alloc (.cells #[z0, z1] T)) R)
    (hb : ∀ e w', R e w' → Below (W.alloc (.cells #[z0, z1] T)).heap.size (W.alloc (.cells #[z0, z1] T)) w') :
    Calls P f args (W.alloc (.cells #[z0, z1] T)) fun e w' => R e w' ∧ w'.cell? ⟨W.heap.size, 0, none⟩ = some z0 ∧ w'.cell? ⟨W.heap.size, 1, none⟩ = some z1 ∧ w'.frozen? ⟨W.heap.size, 0, none⟩ = false ∧ w'.frozen? ⟨W.heap.size, 1, none⟩ = false :=
  h.mono fun e w' r => by
    have b := hb e w' r
    have c0 : (W.alloc (.cells #[z0, z1] T)).cell? ⟨W.heap.size, 0, none⟩ = some z0 := by go_cell
    have c1 : (W.alloc (.cells #[z0, z1] T)).cell? ⟨W.heap.size, 1, none⟩ = some z1 := by go_cell
    have f (i : Nat) : (W.alloc (.cells #[z0, z1] T)).frozen? ⟨W.heap.size, i, none⟩ = false := by
      unfold World.frozen?
      rw [heap_new]
      simp
    exact ⟨r, cell_below b c0, cell_below b c1, (b.frozen (cell_lt c0)).trans (f 0), (b.frozen (cell_lt c1)).trans (f 1)⟩
theorem keep_newd {P : Program} {f : FuncId} {args : Array Value} {W : World} {z0 z1 : Value} {T : TypeId} {R : Ending → World → Prop} (h : Calls P f args (W.alloc (.cells #[z0, z1] T)).drew R)
    (hb : ∀ e w', R e w' → Below (W.alloc (.cells #[z0, z1] T)).drew.heap.size (W.alloc (.cells #[z0, z1] T)).drew w') :
    Calls P f args (W.alloc (.cells #[z0, z1] T)).drew fun e w' => R e w' ∧ w'.cell? ⟨W.heap.size, 0, none⟩ = some z0 ∧ w'.cell? ⟨W.heap.size, 1, none⟩ = some z1 ∧ w'.frozen? ⟨W.heap.size, 0, none⟩ = false ∧ w'.frozen? ⟨W.heap.size, 1, none⟩ = false :=
  h.mono fun e w' r => by
    have b := hb e w' r
    have c0 : (W.alloc (.cells #[z0, z1] T)).drew.cell? ⟨W.heap.size, 0, none⟩ = some z0 := by go_cell
    have c1 : (W.alloc (.cells #[z0, z1] T)).drew.cell? ⟨W.heap.size, 1, none⟩ = some z1 := by go_cell
    have f (i : Nat) : (W.alloc (.cells #[z0, z1] T)).drew.frozen? ⟨W.heap.size, i, none⟩ = false := by
      show (W.alloc (.cells #[z0, z1] T)).frozen? ⟨W.heap.size, i, none⟩ = false
      unfold World.frozen?
      rw [heap_new]
      simp
    exact ⟨r, cell_below b c0, cell_below b c1, (b.frozen (cell_lt c0)).trans (f 0), (b.frozen (cell_lt c1)).trans (f 1)⟩
theorem keep_old {P : Program} {f : FuncId} {args : Array Value} {W : World} {q : Nat} {z0 z1 : Value} {R : Ending → World → Prop} (h : Calls P f args W R) (hb : ∀ e w', R e w' → Below W.heap.size W w')
    (h0 : W.cell? ⟨q, 0, none⟩ = some z0) (h1 : W.cell? ⟨q, 1, none⟩ = some z1) (f0 : W.frozen? ⟨q, 0, none⟩ = false) (f1 : W.frozen? ⟨q, 1, none⟩ = false) :
    Calls P f args W fun e w' => R e w' ∧ w'.cell? ⟨q, 0, none⟩ = some z0 ∧ w'.cell? ⟨q, 1, none⟩ = some z1 ∧ w'.frozen? ⟨q, 0, none⟩ = false ∧ w'.frozen? ⟨q, 1, none⟩ = false :=
  h.mono fun e w' r => by
    have b := hb e w' r
    exact ⟨r, cell_below b h0, cell_below b h1, (b.frozen (cell_lt h0)).trans f0, (b.frozen (cell_lt h1)).trans f1⟩
theorem reads_on {w W V : World} {A : Option Addr} {l : List CellD} (h : Reads w A l) (hb : Below W.heap.size W V) (k : Below w.heap.size w W) : Reads V A l := h.below (below_then k hb)
theorem sl_below {w : World} {r : List CellD} {e : Ending} {w' : World} (h : IsSl w r e w') : Below w.heap.size w w' := by
  obtain ⟨_, _, _, _, _, b⟩ := h
  exact b
theorem frozen_below {w W : World} (h : Below w.heap.size w W) {a : Addr} {v : Value} (hc : w.cell? a = some v) (hf : w.frozen? a = false) : W.frozen? a = false := (h.frozen (cell_lt hc)).trans hf
theorem set2_far {w : World} {p a b : Addr} {v u0 u1 x y : Value} (h : w.cell? p = some v) (h0 : w.cell? a = some u0) (h1 : w.cell? b = some u1) (n0 : v ≠ u0) (n1 : v ≠ u1) : ((w.setCell a x).setCell b y).cell? p = some v := by
  have e1 : p ≠ b := fun e => by subst e; rw [h] at h1; injection h1 with h1; exact n1 h1
  have e0 : p ≠ a := fun e => by subst e; rw [h] at h0; injection h0 with h0; exact n0 h0
  rw [World.cell?_setCell_other _ _ _ _ (fun e => e1 (by first | exact e | exact e.symm)), World.cell?_setCell_other _ _ _ _ (fun e => e0 (by first | exact e | exact e.symm))]
  exact h
theorem set2_cells {w : World} {q : Nat} {u0 u1 x y : Value} (h0 : w.cell? ⟨q, 0, none⟩ = some u0) (h1 : w.cell? ⟨q, 1, none⟩ = some u1) :
    ((w.setCell ⟨q, 0, none⟩ x).setCell ⟨q, 1, none⟩ y).cell? ⟨q, 0, none⟩ = some x ∧ ((w.setCell ⟨q, 0, none⟩ x).setCell ⟨q, 1, none⟩ y).cell? ⟨q, 1, none⟩ = some y := by
  have ne : (⟨q, 0, none⟩ : Addr) ≠ ⟨q, 1, none⟩ := by intro e; injection e with _ e2 _; cases e2
  have e0 := World.cell?_setCell_same w ⟨q, 0, none⟩ x h0
  have e1 : (w.setCell ⟨q, 0, none⟩ x).cell? ⟨q, 1, none⟩ = some u1 := (World.cell?_setCell_other w ⟨q, 0, none⟩ ⟨q, 1, none⟩ x ne).trans h1
  exact ⟨(World.cell?_setCell_other _ ⟨q, 1, none⟩ ⟨q, 0, none⟩ y (Ne.symm ne)).trans e0, World.cell?_setCell_same _ ⟨q, 1, none⟩ y e1⟩
theorem reads_set2 {w : World} {A : Option Addr} {l : List CellD} {q : Nat} {x y : Value} (h : Reads w A l) (h0 : w.cell? ⟨q, 0, none⟩ = some (.slice none 0 0)) (h1 : w.cell? ⟨q, 1, none⟩ = some (.slice none 0 0)) : Reads ((w.setCell ⟨q, 0, none⟩ x).setCell ⟨q, 1, none⟩ y) A l := fun j hj => by
  obtain ⟨b, o, e, c0, c1, c2⟩ := h j hj
  exact ⟨b, o, e, set2_far c0 h0 h1 (by simp) (by simp), set2_far c1 h0 h1 (by simp) (by simp), set2_far c2 h0 h1 (by simp) (by simp)⟩
/-- What stands behind 'v := two{..}': both values, behind a pointer. -/
def CutH (w : World) (t : TestD) (x : List (List CellD)) (p : Nat) (s13 : Value) (wx : World) : Prop :=
  ∃ (q : Nat) (A1 A2 : Option Addr) (c1 c2 : Nat), s13 = .pointer (some ⟨q, 0, none⟩) ∧ wx.cell? ⟨q, 0, none⟩ = some (.slice A1 (valueD t.a x).length c1) ∧ wx.cell? ⟨q, 1, none⟩ = some (.slice A2 (valueD t.b x).length c2) ∧
    (valueD t.a x).length ≤ c1 ∧ (valueD t.b x).length ≤ c2 ∧ Reads wx A1 (valueD t.a x) ∧ Reads wx A2 (valueD t.b x) ∧ wx.cell? ⟨p, 0, none⟩ = some (.int .i64 t.op) ∧ Below w.heap.size w wx
attribute [local go_sem ↓] Go.wp_at_zero Go.wp_at_succ
set_option maxRecDepth 100000 in
set_option maxHeartbeats 4000000 in
theorem gHolds_any (g : List TestD) (x : List (List CellD)) (A B : Option Addr) (c d : Nat) (w : World) (hr : TReads w A g) (hf : FineT g) (hx : Reads2 w B x) (hfx : Fine2 x) (hl : x.length ≤ 1000000000000000) (hT : Tabs w) :
    Calls Tryd.prog 40 #[.slice A g.length c, .slice B x.length d] w fun e w' => e = .returned (.tuple #[.bool (holdsE g x).1, .int .i64 (holdsE g x).2]) ∧ Below w.heap.size w w' := by
  have hgl := hf.len
  have HR := Lib.hid hr
  have HF := Lib.hid hf
  have HX := Lib.hid hx
  have HFX := Lib.hid hfx
  have HT := Lib.hid hT
  clear hr hf hx hfx hT
  go_enter Tryd.func40, Tryd.ntmps40
  go_wp2_with fail
  refine (gRight_any g A c _ HR.out HF.out HT.out).mono ?_
  rintro e w1 ⟨rfl, hB1⟩
  by_cases he : guardE g = 0
  · have ht : (guardE g != 0) = false := by rw [bne_eq_false_iff_eq]; exact he
    by_cases h16 : 16 < x.length
    · have F := Lib.hid (holds_l he h16)
      clear he
      go_wp2
      go_ret2
      exact ⟨by rw [F.out]; rfl, hB1⟩
    have hb16 : decide (16 < (x.length : Int)) = false := decide_eq_false (by omega)
    have HE := Lib.hid he
    clear he
    go_wp2_with fail
    go_loopw [24] (fun i wr => ∃ (j : Nat), j ≤ x.length ∧ i = .int .i64 j ∧ Below w.heap.size w wr ∧ Hid (regsE x = regsE (x.drop j))) (fun i wr => x.length - (intOf i).toNat)
    case atStart => exact ⟨0, Nat.zero_le _, rfl, hB1, rfl⟩
    case round =>
      obtain ⟨j, hj, rfl, hB, hH⟩ := hrel
      by_cases hlt : j < x.length
      · obtain ⟨b, o, hA, Aj, cj, q0, q1, q2⟩ := HX.out j hlt
        subst hA
        have q0' := cell_below hB q0
        have hfj := Lib.hid (HFX.out j hlt)
        have hi1 : (j : Int) < (x.length : Int) := by omega
        have hi0 : (0 : Int) ≤ (j : Int) := Int.natCast_nonneg _
        have HBd := Lib.hid (regs_bad hlt)
        have HNx := Lib.hid (regs_next hlt)
        clear q0
        go_wp2_with fail
        refine (wright_any x[j] Aj cj _ (q2.below hB) hfj.out.text hfj.out.lim (Utf8Tabs_below HT.out hB)).mono ?_
        rintro e w2 ⟨rfl, hb⟩
        have hB2 := below_then hB hb
        clear q0' hb
        have hln := hfj.out.lim
        by_cases hnn : 0 < x[j].length
        · by_cases hee : (rightE x[j]).1 = 0
          · have F := Lib.hid (hH.out.trans (HNx.out (fun e => e.2 hee)))
            have hte : ((rightE x[j]).1 != 0) = false := by rw [bne_eq_false_iff_eq]; exact hee
            have hnb : (0 : Int) < (x[j].length : Int) := by omega
            clear HBd HNx hH hee
            generalize (rightE x[j]).1 = E at *
            generalize x[j].length = n at *
            go_wp2
            go_roundw
            case rel => exact ⟨j + 1, by omega, by go_num, hB2, F⟩
            case measure => simp [intOf]; omega
          · have F := Lib.hid (hH.out.trans (HBd.out hnn hee))
            have F2 := Lib.hid (holds_r HE.out h16 (by rw [F.out]; exact hee))
            have hte : ((rightE x[j]).1 != 0) = true := by rw [bne_iff_ne]; exact hee
            have hnb : (0 : Int) < (x[j].length : Int) := by omega
            clear HBd HNx hH hee
            generalize (rightE x[j]).1 = E at *
            generalize x[j].length = n at *
            go_wp2
            go_ret2
            exact ⟨by rw [F2.out, F.out]; rfl, hB2⟩
        · have F := Lib.hid (hH.out.trans (HNx.out (fun e => hnn e.1)))
          have hnz : x[j].length = 0 := by omega
          rw [hnz]
          clear HBd HNx hH hnz hnn
          generalize (rightE x[j]).1 = E at *
          go_wp2
          go_roundw
          case rel => exact ⟨j + 1, by omega, by go_num, hB2, F⟩
          case measure => simp [intOf]; omega
      · have F := Lib.hid (hH.out.trans (regs_done (by omega)))
        have F2 := Lib.hid (holds_a HE.out h16 F.out)
        have hok := Lib.hid (fun j (h : j < g.length) => (guard_ok HE.out).2 j h)
        clear hH
        go_wp2_with fail
        go_loopw [44] (fun i wr => ∃ j : Nat, j ≤ g.length ∧ i = .int .i64 j ∧ Below w.heap.size w wr ∧ Hid (∀ k (h : k < g.length), k < j → holdB x g[k] = true)) (fun i wr => g.length - (intOf i).toNat)
        case atStart => exact ⟨0, Nat.zero_le _, rfl, hB, fun k _ h => absurd h (Nat.not_lt_zero k)⟩
        case round =>
          obtain ⟨i, hi, rfl, hBi, hHi⟩ := hrel
          by_cases hlt2 : i < g.length
          · obtain ⟨b, o, hA, ht⟩ := HR.out i hlt2
            subst hA
            obtain ⟨q0, q1, q2, q3, q4, q5, q6⟩ := ht.below hBi
            have hfj := HF.out.text i hlt2
            have hti := Lib.hid (hok.out i hlt2)
            have hi1 : (i : Int) < (g.length : Int) := by omega
            have hi0 : (0 : Int) ≤ (i : Int) := Int.natCast_nonneg _
            have HBad := Lib.hid (show holdB x g[i] = false → g.all (holdB x) = false from all_bad hlt2)
            have HN := Lib.hid (show holdB x g[i] = true → ∀ k (h : k < g.length), k < i + 1 → holdB x g[k] = true from fun e k h h1 => by
              rcases Nat.lt_succ_iff_lt_or_eq.1 h1 with h2 | rfl
              · exact hHi.out k h h2
              · exact e)
            generalize g[i] = t at *
            clear ht hHi
            have hop := Lib.hid (test_parts hti.out)
            go_wp2_with fail
            have hma := method_value t.a
            have hmb := method_value t.b
            have hia := enter_value t.a
            have hib := enter_value t.b
            have OA := Lib.hid (of_any t.a)
            have OB := Lib.hid (of_any t.b)
            have VA := Lib.hid (fun W h => valueM_any t.a x B d W h (arg_reg (test_parts hti.out).2.1) hl)
            have VB := Lib.hid (fun W h => valueM_any t.b x B d W h (test_b hti.out) hl)
            have HB0 := below_then hBi (below_one wr (.cells #[.int .i64 t.op, .int .i64 t.a.kind, .int .i64 t.a.n, .string t.a.text, .int .i64 t.b.kind, .int .i64 t.b.n, .string t.b.text] 51))
            have T0 := test_new wr t 51
            obtain ⟨z0, z1, z2, z3, z4, z5, z6⟩ := T0
            simp only [Nat.zero_add] at z1 z2 z3 z4 z5 z6
            clear q0 q1 q2 q3 q4 q5 q6
            generalize opTy t.a = Ta at *
            generalize opTy t.b = Tb at *
            generalize valueFn t.a = Fa at *
            generalize valueFn t.b = Fb at *
            go_cut [13] (fun s13 wx => CutH w t x wr.heap.size s13 wx)
            case first =>
              go_region_held3 (fun w' => w'.cell? ⟨wr.heap.size, 0, none⟩ = some (.int .i64 t.op) ∧ w'.cell? ⟨wr.heap.size, 1, none⟩ = some (.int .i64 t.a.kind) ∧ w'.cell? ⟨wr.heap.size, 2, none⟩ = some (.int .i64 t.a.n) ∧ w'.cell? ⟨wr.heap.size, 3, none⟩ = some (.string t.a.text) ∧
                  w'.cell? ⟨wr.heap.size, 4, none⟩ = some (.int .i64 t.b.kind) ∧ w'.cell? ⟨wr.heap.size, 5, none⟩ = some (.int .i64 t.b.n) ∧ w'.cell? ⟨wr.heap.size, 6, none⟩ = some (.string t.b.text) ∧ Below w.heap.size w w')
                (first
                  | exact ⟨z0, z1, z2, z3, z4, z5, z6, HB0.drew⟩
                  | (go_split_ands; refine ⟨?_, ?_, ?_, ?_, ?_, ?_, ?_, ?_⟩ <;> first | (exact cell_below hbc (by assumption)) | (exact below_then (by assumption) hbc))
                  | (go_split_ands; refine ⟨?_, ?_, ?_, ?_, ?_, ?_, ?_, ?_⟩ <;> first | (exact cell_below (below_one _ _) (by assumption)) | (exact below_then (by assumption) (below_one _ _)))
                  | (go_split_ands; refine ⟨?_, ?_, ?_, ?_, ?_, ?_, ?_, ?_⟩ <;> first | (exact cell_below (below_then hbc (below_one _ _)) (by assumption)) | (exact below_then (by assumption) (below_then hbc (below_one _ _))))
                  | (go_split_ands; refine ⟨?_, ?_, ?_, ?_, ?_, ?_, ?_, ?_⟩ <;> first | (exact set2_far (u0 := .slice none 0 0) (u1 := .slice none 0 0) (cell_below hbc (by assumption)) n0 n1 (by simp) (by simp)) | (exact below_set (below_set (below_then (by assumption) hbc) (by have := HB0.size; simp at this; omega) _) (by have := HB0.size; simp at this; omega) _))
                  | go_keep)
                (first
                  | (go_at_call 108; go_split_ands; ((with_reducible refine ((keep_new (z0 := .slice none 0 0) (z1 := .slice none 0 0) (T := 126) (OA.out _) (fun _ _ h => h.2))).mono ?_); rintro e wc ⟨⟨rfl, hbc⟩, n0, n1, n2, n3⟩; (try simp only [World.size_alloc] at n0 n1 n2 n3); have hzc := hbc.size; try simp at hzc))
                  | (go_at_call 108; go_split_ands; ((with_reducible refine ((keep_newd (z0 := .slice none 0 0) (z1 := .slice none 0 0) (T := 126) (OA.out _) (fun _ _ h => h.2))).mono ?_); rintro e wc ⟨⟨rfl, hbc⟩, n0, n1, n2, n3⟩; (try simp only [World.size_alloc] at n0 n1 n2 n3); have hzc := hbc.size; try simp at hzc))
                  | (go_at_call 108; go_split_ands; ((with_reducible refine ((keep_old (OA.out _) (fun _ _ h => h.2) n0 n1 n2 n3)).mono ?_); rintro e wc ⟨⟨rfl, hbc⟩, n0, n1, n2, n3⟩; have hzc := hbc.size; try simp at hzc))
                  | (go_at_call 108; go_split_ands; ((with_reducible refine (OA.out _).mono ?_); rintro e wc ⟨rfl, hbc⟩; have hzc := hbc.size; try simp at hzc))
                  | (go_at_call 108; go_split_ands; ((with_reducible refine ((keep_new (z0 := .slice none 0 0) (z1 := .slice none 0 0) (T := 126) (OB.out _) (fun _ _ h => h.2))).mono ?_); rintro e wc ⟨⟨rfl, hbc⟩, n0, n1, n2, n3⟩; (try simp only [World.size_alloc] at n0 n1 n2 n3); have r1 := reads_on r1 hbc (by first | exact Below.refl _ _ | exact below_one _ _); have hzc := hbc.size; try simp at hzc))
                  | (go_at_call 108; go_split_ands; ((with_reducible refine ((keep_old (OB.out _) (fun _ _ h => h.2) n0 n1 n2 n3)).mono ?_); rintro e wc ⟨⟨rfl, hbc⟩, n0, n1, n2, n3⟩; have r1 := reads_on r1 hbc (by first | exact Below.refl _ _ | exact below_one _ _); have hzc := hbc.size; try simp at hzc))
                  | (go_at_call 108; go_split_ands; ((with_reducible refine (OB.out _).mono ?_); rintro e wc ⟨rfl, hbc⟩; have r1 := reads_on r1 hbc (by first | exact Below.refl _ _ | exact below_one _ _); have hzc := hbc.size; try simp at hzc))
                  | (go_split_ands; ((with_reducible refine ((keep_new (z0 := .slice none 0 0) (z1 := .slice none 0 0) (T := 126) (VA.out _ (HX.out.below (by assumption))) (fun _ _ h => sl_below h))).mono ?_); rintro e wc ⟨⟨A1, c1, rfl, hc1, r1, hbc⟩, n0, n1, n2, n3⟩; (try simp only [World.size_alloc] at n0 n1 n2 n3); have hzc := hbc.size; try simp at hzc))
                  | (go_split_ands; ((with_reducible refine ((keep_old (VA.out _ (HX.out.below (by assumption))) (fun _ _ h => sl_below h) n0 n1 n2 n3)).mono ?_); rintro e wc ⟨⟨A1, c1, rfl, hc1, r1, hbc⟩, n0, n1, n2, n3⟩; have hzc := hbc.size; try simp at hzc))
                  | (go_split_ands; ((with_reducible refine (VA.out _ (HX.out.below (by assumption))).mono ?_); rintro e wc ⟨A1, c1, rfl, hc1, r1, hbc⟩; have hzc := hbc.size; try simp at hzc))
                  | (go_split_ands; ((with_reducible refine ((keep_new (z0 := .slice none 0 0) (z1 := .slice none 0 0) (T := 126) (VB.out _ (HX.out.below (by assumption))) (fun _ _ h => sl_below h))).mono ?_); rintro e wc ⟨⟨A2, c2, rfl, hc2, r2, hbc⟩, n0, n1, n2, n3⟩; (try simp only [World.size_alloc] at n0 n1 n2 n3); have r1 := reads_on r1 hbc (by first | exact Below.refl _ _ | exact below_one _ _); have hzc := hbc.size; try simp at hzc))
                  | (go_split_ands; ((with_reducible refine ((keep_old (VB.out _ (HX.out.below (by assumption))) (fun _ _ h => sl_below h) n0 n1 n2 n3)).mono ?_); rintro e wc ⟨⟨A2, c2, rfl, hc2, r2, hbc⟩, n0, n1, n2, n3⟩; have r1 := reads_on r1 hbc (by first | exact Below.refl _ _ | exact below_one _ _); have hzc := hbc.size; try simp at hzc))
                  | (go_split_ands; ((with_reducible refine (VB.out _ (HX.out.below (by assumption))).mono ?_); rintro e wc ⟨A2, c2, rfl, hc2, r2, hbc⟩; have r1 := reads_on r1 hbc (by first | exact Below.refl _ _ | exact below_one _ _); have hzc := hbc.size; try simp at hzc)))
              all_goals go_wp2_with fail
              all_goals go_meet
              all_goals go_split_ands
              all_goals first
                | exact ⟨_, A1, A2, c1, c2, rfl, by go_cell, by go_cell, hc1, hc2, r1.below (below_one _ _), r2.below (below_one _ _), cell_below (below_then hbc (below_one _ _)) (by assumption), below_then (by assumption) (below_then hbc (below_one _ _))⟩
                | exact ⟨_, A1, A2, c1, c2, rfl, (set2_cells n0 n1).1, (set2_cells n0 n1).2, hc1, hc2, reads_set2 r1 n0 n1, reads_set2 r2 n0 n1, set2_far (cell_below hbc (by assumption)) n0 n1 (by simp) (by simp), below_set (below_set (below_then (by assumption) hbc) (by have := HB0.size; simp at this; omega) _) (by have := HB0.size; simp at this; omega) _⟩
            case rest =>
              obtain ⟨q, A1, A2, c1, c2, rfl, k0, k1, hc1, hc2, r1, r2, ko, hBx⟩ := hcut
              have h_a := Lib.hid (fun h => HBad.out (hold_a (x := x) (t := t) h))
              have h_b := Lib.hid (fun o h => HBad.out (hold_b (x := x) (t := t) o h))
              have h_s := Lib.hid (hold_s (x := x) (t := t))
              have f1 := value_fine HFX.out hfj.1
              have f2 := value_fine HFX.out hfj.2
              have l1 := f1.lim
              have l2 := f2.lim
              have HS := Lib.hid (fun hne hk => says_any t.op (valueD t.a x) (valueD t.b x) A1 A2 c1 c2 _ r1 r2 f1 f2 hc1 hc2 (Utf8Tabs_below HT.out hBx) hop.out.1 hne hk)
              have HRA := Lib.hid (value_right (x := x) hop.out.2.1 F.out)
              have HRB := Lib.hid (fun o => value_right (x := x) (hop.out.2.2.1 o) F.out)
              clear r1 r2 f1 f2 z0 z1 z2 z3 z4 z5 z6 HB0 hma hmb hia hib OA OB VA VB
              generalize valueD t.a x = va at *
              generalize valueD t.b x = vb at *
              cases va with
              | nil =>
                have G := Lib.hid (h_a.out rfl)
                have z : (([] : List CellD).length) = 0 := rfl
                rw [z] at k0
                clear h_a h_b h_s HS HRA HRB z
                go_wp2
                go_ret2
                exact ⟨by rw [F2.out, G.out]; rfl, hBx⟩
              | cons y va =>
                have hz : (((y :: va).length : Int) == 0) = false := beq_eq_false_iff_ne.2 (by simp; omega)
                have hz1 : 0 < (y :: va).length := by simp
                by_cases o6 : t.op ≤ 6
                · cases vb with
                  | nil =>
                    have G := Lib.hid (h_b.out o6 rfl)
                    have z : (([] : List CellD).length) = 0 := rfl
                    rw [z] at k1
                    clear h_a h_b h_s HS HRA HRB z
                    generalize (y :: va).length = n at *
                    go_wp2
                    go_ret2
                    exact ⟨by rw [F2.out, G.out]; rfl, hBx⟩
                  | cons u vb =>
                    have hzz : (((u :: vb).length : Int) == 0) = false := beq_eq_false_iff_ne.2 (by simp; omega)
                    have hzz1 : 0 < (u :: vb).length := by simp
                    have G := Lib.hid (h_s.out (by simp) (fun _ => by simp))
                    have HS' := Lib.hid (HS.out (by simp) (fun o => ⟨HRA.out (by simp), HRB.out o (by simp)⟩))
                    clear h_a h_b h_s HS HRA HRB
                    generalize (y :: va).length = n at *
                    generalize (u :: vb).length = m at *
                    go_wp2_with fail
                    refine HS'.out.mono ?_
                    rintro e w3 ⟨rfl, hb3⟩
                    rw [← G.out]
                    have hB3 := below_then hBx hb3
                    cases hk : holdB x t
                    · have G2 := Lib.hid (HBad.out hk)
                      clear hk
                      go_wp2
                      go_ret2
                      exact ⟨by rw [F2.out, G2.out]; rfl, hB3⟩
                    · have G2 := Lib.hid (HN.out hk)
                      clear hk
                      go_wp2
                      go_roundw
                      case rel => exact ⟨i + 1, by omega, by go_num, hB3, G2⟩
                      case measure => simp [intOf]; omega
                · have G := Lib.hid (h_s.out (by simp) (fun o => absurd o o6))
                  have HS' := Lib.hid (HS.out (by simp) (fun o => absurd o o6))
                  clear h_a h_b h_s HS HRA HRB
                  generalize (y :: va).length = n at *
                  generalize hm : vb.length = m at *
                  have HM := Lib.hid hm
                  clear hm
                  go_wp2_with fail
                  refine HS'.out.mono ?_
                  rintro e w3 ⟨rfl, hb3⟩
                  rw [← G.out]
                  have hB3 := below_then hBx hb3
                  cases hk : holdB x t
                  · have G2 := Lib.hid (HBad.out hk)
                    clear hk
                    go_wp2
                    go_ret2
                    exact ⟨by rw [F2.out, G2.out]; rfl, hB3⟩
                  · have G2 := Lib.hid (HN.out hk)
                    clear hk
                    go_wp2
                    go_roundw
                    case rel => exact ⟨i + 1, by omega, by go_num, hB3, G2⟩
                    case measure => simp [intOf]; omega
          · have G := Lib.hid (all_good (x := x) (fun k h => hHi.out k h (by omega)))
            clear hHi
            go_wp2
            go_ret2
            exact ⟨by rw [F2.out, G.out]; rfl, hBi⟩
  · have ht : (guardE g != 0) = true := by rw [bne_iff_ne]; exact he
    have F := Lib.hid (holds_g (x := x) he)
    clear he
    go_wp2
    go_ret2
    exact ⟨by rw [F.out]; rfl, hB1⟩
end Go.Proofs.YtefpolgflimlgaaDoor.Tm
