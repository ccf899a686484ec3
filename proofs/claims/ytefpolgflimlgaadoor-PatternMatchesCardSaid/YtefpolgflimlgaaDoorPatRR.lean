/- The document's Right of a pattern: prightE. -/
import Derived.Test.YtefpolgflimlgaaDoorPatA
import Derived.Test.YtefpolgflimlgaaDoorNotP
import Derived.Handy
import Derived.BigQuiet
import Derived.WalkSmall
import Derived.RegionTactic
import Derived.Deep.QuietTactic
import Derived.Deep.RegionHeld3
import Derived.Deep.DrawnRows
namespace Go.Proofs.YtefpolgflimlgaaDoor.Tm
open Go.RowKit
set_option linter.unusedVariables false
set_option linter.unusedSimpArgs false
attribute [local go_sem ↓] Go.wp_at_zero Go.wp_at_succ

theorem bound_snoc {p : List CellD} {j : Nat} (h : j < p.length) (n : Int) : boundB (p.take (j + 1)) n = (boundB (p.take j) n || (decide (p[j].kind = 12) && decide (p[j].n = n))) := any_snoc h
theorem bound_at_ {p : List CellD} {j : Nat} {n : Int} (h : j < p.length) (k : p[j].kind = 12) (e : p[j].n = n) : boundB p n = true := any_at h (by simp [k, e])
set_option maxRecDepth 100000 in
set_option maxHeartbeats 2000000 in
theorem bound_any (m : Nat) (p : List CellD) (hm : p.length = m) (A : Option Addr) (c : Nat) (n : Int) (w : World) (hr : Reads w A p) (hl : p.length ≤ 1000000000000000) :
    Calls Tryd.prog 135 #[.slice A m c, .int .i64 n] w fun e w' => e = .returned (.bool (boundB p n)) ∧ Below w.heap.size w w' := by
  subst hm
  have HR := Lib.hid hr
  clear hr
  go_enter Tryd.func135, Tryd.ntmps135
  go_wp2_with fail
  go_loopw [9] (fun i wr => ∃ j : Nat, j ≤ p.length ∧ i = .int .i64 j ∧ Below w.heap.size w wr ∧ Hid (boundB (p.take j) n = false)) (fun i wr => p.length - (intOf i).toNat)
  case atStart => exact ⟨0, Nat.zero_le _, rfl, Below.refl _ _, rfl⟩
  case round =>
    obtain ⟨j, hj, rfl, hB, hH⟩ := hrel
    by_cases hlt : j < p.length
    · obtain ⟨b, o, hA, ht⟩ := HR.out j hlt
      subst hA
      obtain ⟨q0, q1, q2⟩ := ht.below hB
      have hi1 : (j : Int) < (p.length : Int) := by omega
      have hi0 : (0 : Int) ≤ (j : Int) := Int.natCast_nonneg _
      have S := Lib.hid (bound_snoc hlt n)
      have Y := Lib.hid (bound_at_ (n := n) hlt)
      generalize p[j] = x at *
      clear ht
      by_cases k12 : x.kind = 12
      · by_cases kn : x.n = n
        · have F := Lib.hid (Y.out k12 kn)
          have e1 : (x.kind == 12) = true := by simp [k12]
          have e2 : (x.n == n) = true := by simp [kn]
          clear S Y k12 kn hH
          go_wp2
          go_ret
          exact ⟨by rw [F.out]; rfl, below_alloc' hB _⟩
        · have F := Lib.hid (show boundB (p.take (j + 1)) n = false by rw [S.out, hH.out]; simp [kn])
          have e1 : (x.kind == 12) = true := by simp [k12]
          have e2 : (x.n == n) = false := beq_eq_false_iff_ne.2 kn
          clear S Y k12 kn hH
          go_wp2
          go_roundw
          case rel => exact ⟨j + 1, by omega, by go_num, below_alloc' hB _, F⟩
          case measure => simp [intOf]; omega
      · have F := Lib.hid (show boundB (p.take (j + 1)) n = false by rw [S.out, hH.out]; simp [k12])
        have e1 : (x.kind == 12) = false := beq_eq_false_iff_ne.2 k12
        clear S Y k12 hH
        go_wp2
        go_roundw
        case rel => exact ⟨j + 1, by omega, by go_num, below_alloc' hB _, F⟩
        case measure => simp [intOf]; omega
    · have F := Lib.hid (show boundB p n = false by have := hH.out; rwa [List.take_of_length_le (by omega)] at this)
      clear hH
      go_wp2
      go_ret
      exact ⟨by rw [F.out]; rfl, hB⟩
/-! the loop of Right -/
theorem pr_bad {p : List CellD} {j : Nat} {o : Int} (h : j < p.length) (e : patE p[j] ≠ 0) : prightL (p.take j) (p.drop j) o = (patE p[j], (j : Int)) := by
  rw [List.drop_eq_getElem_cons h, prightL, if_pos e, List.length_take_of_le (by omega)]
theorem pr_twice {p : List CellD} {j : Nat} {o : Int} (h : j < p.length) (e : patE p[j] = 0) (k : p[j].kind = 12) (b : boundB (p.take j) p[j].n = true) : prightL (p.take j) (p.drop j) o = (6, (j : Int)) := by
  rw [List.drop_eq_getElem_cons h, prightL, if_neg (by simp [e]), if_pos ⟨k, b⟩, List.length_take_of_le (by omega)]
theorem pr_more {p : List CellD} {j : Nat} {o : Int} (h : j < p.length) (e : patE p[j] = 0) (k : ¬ (p[j].kind = 12 ∧ boundB (p.take j) p[j].n = true)) (ho : o = 0) : prightL (p.take j) (p.drop j) o = (63, (j : Int)) := by
  rw [List.drop_eq_getElem_cons h, prightL, if_neg (by simp [e]), if_neg k, if_pos ho, List.length_take_of_le (by omega)]
theorem pr_next {p : List CellD} {j : Nat} {o : Int} (h : j < p.length) (e : patE p[j] = 0) (k : ¬ (p[j].kind = 12 ∧ boundB (p.take j) p[j].n = true)) (ho : ¬ o = 0) : prightL (p.take j) (p.drop j) o = prightL (p.take (j + 1)) (p.drop (j + 1)) (o - 1 + kidsD p[j]) := by
  rw [List.drop_eq_getElem_cons h, prightL, if_neg (by simp [e]), if_neg k, if_neg ho, List.take_succ_eq_append_getElem h]
theorem pr_short {p : List CellD} {o : Int} (ho : 0 < o) : prightL (p.take p.length) (p.drop p.length) o = (62, (p.length : Int)) := by
  rw [List.drop_length, prightL, if_pos ho, List.take_length]
theorem pr_done {p : List CellD} {o : Int} (ho : ¬ 0 < o) : prightL (p.take p.length) (p.drop p.length) o = (0, 0) := by
  rw [List.drop_length, prightL, if_neg ho]
set_option maxRecDepth 100000 in
set_option maxHeartbeats 4000000 in
theorem prright_any (p : List CellD) (A : Option Addr) (c : Nat) (w : World) (hr : Reads w A p) (hf : Fine p) (hc : p.length ≤ c) :
    Calls Tryd.prog 72 #[.slice A p.length c] w fun e w' => e = .returned (.tuple #[.int .i64 (prightE p).1, .int .i64 (prightE p).2]) ∧ Below w.heap.size w w' := by
  have hl := hf.lim
  by_cases h0 : p.length = 0
  · have H := Lib.hid (show prightE p = (5, 0) by rw [prightE, if_pos h0])
    clear hr hf
    go_enter Tryd.func72, Tryd.ntmps72
    go_wp2
    go_ret2
    exact ⟨by rw [H.out]; rfl, Below.refl _ _⟩
  have hb0 : ((p.length : Int) == 0) = false := beq_eq_false_iff_ne.2 (by omega)
  by_cases h1 : 256 < p.length
  · have H := Lib.hid (show prightE p = (7, 0) by rw [prightE, if_neg h0, if_pos h1])
    clear hr hf h0
    go_enter Tryd.func72, Tryd.ntmps72
    go_wp2
    go_ret2
    exact ⟨by rw [H.out]; rfl, Below.refl _ _⟩
  have hb1 : decide (256 < (p.length : Int)) = false := decide_eq_false (by omega)
  have H := Lib.hid (show prightE p = prightL (p.take 0) (p.drop 0) 1 by rw [prightE, if_neg h0, if_neg h1]; rfl)
  have HR := Lib.hid hr
  have HF := Lib.hid hf
  have h1' : p.length ≤ 256 := by omega
  clear hr hf h0 h1
  go_enter Tryd.func72, Tryd.ntmps72
  go_wp2_with fail
  go_loopw [4, 16] (fun ov i wr => ∃ (j : Nat) (o : Int), j ≤ p.length ∧ i = .int .i64 j ∧ ov = .int .i64 o ∧ 0 ≤ o ∧ o ≤ 1 + 255 * (j : Int) ∧ Below w.heap.size w wr ∧ Hid (prightE p = prightL (p.take j) (p.drop j) o)) (fun ov i wr => p.length - (intOf i).toNat)
  case atStart => exact ⟨0, 1, Nat.zero_le _, rfl, rfl, by omega, by omega, Below.refl _ _, H⟩
  case round =>
    obtain ⟨j, o, hj, rfl, rfl, ho0, ho1, hB, hH⟩ := hrel
    by_cases hlt : j < p.length
    · obtain ⟨b, o', hA, ht⟩ := HR.out j hlt
      subst hA
      obtain ⟨q0, q1, q2⟩ := ht.below hB
      have hfj := HF.out.text j hlt
      have hi1 : (j : Int) < (p.length : Int) := by omega
      have hi0 : (0 : Int) ≤ (j : Int) := Int.natCast_nonneg _
      have hcj : (j : Int) ≤ (c : Int) := by omega
      have LB := Lib.hid (pr_bad (o := o) hlt)
      have LT := Lib.hid (pr_twice (o := o) hlt)
      have LM := Lib.hid (pr_more (o := o) hlt)
      have LN := Lib.hid (pr_next (o := o) hlt)
      have hk := kidsD_le p[j]
      have HT := Lib.hid ((HR.out.take j).below hB)
      have htl := Lib.hid (List.length_take_of_le hj)
      generalize p[j] = x at *
      clear ht H
      go_wp2_with fail
      refine (prcell_any x _ hfj).mono ?_
      rintro e w1 ⟨rfl, hb⟩
      have hB1 := below_then (below_alloc' hB (.cells #[.int .i64 x.kind, .int .i64 x.n, .string x.text] 95)) hb
      have p0 := cell_below hb (a := ⟨wr.heap.size, 0, none⟩) (v := .int .i64 x.kind) (by go_cell)
      have p1 := cell_below hb (a := ⟨wr.heap.size, 1, none⟩) (v := .int .i64 x.n) (by go_cell)
      have p2 := cell_below hb (a := ⟨wr.heap.size, 2, none⟩) (v := .string x.text) (by go_cell)
      have HT1 := Lib.hid ((HT.out.below (below_one _ (.cells #[.int .i64 x.kind, .int .i64 x.n, .string x.text] 95))).below hb)
      clear hb HT hB q0 q1 q2
      by_cases he : patE x = 0
      · have he' : (patE x != 0) = false := by rw [bne_eq_false_iff_eq]; exact he
        have HE := Lib.hid he
        clear he LB
        by_cases k12 : x.kind = 12
        · have e12 : (x.kind == 12) = true := by simp [k12]
          cases hbb : boundB (p.take j) x.n
          · have HBB := Lib.hid hbb
            have HNo := Lib.hid (show ¬ (x.kind = 12 ∧ boundB (p.take j) x.n = true) from fun e => by rw [hbb] at e; cases e.2)
            have K12 := Lib.hid k12
            clear hbb k12 LT
            have HT2 := Lib.hid (HT1.out.below ((Below.refl _ _).drew))
            have htl2 := htl.out
            go_wp2_with fail
            go_region_held3 (fun w' => w'.cell? ⟨wr.heap.size, 0, none⟩ = some (.int .i64 x.kind) ∧ w'.cell? ⟨wr.heap.size, 1, none⟩ = some (.int .i64 x.n))
              (first
                | exact ⟨cell_below hbc p0, cell_below hbc p1⟩
                | go_keep)
              ((go_at_call 135; refine (bound_any j (p.take j) htl.out _ _ _ _ HT2.out (by omega)).mono ?_; rintro e wc ⟨rfl, hbc⟩; rw [HBB.out]))
            have hB2 := below_then hB1.drew hbc
            have p0' := cell_below hbc p0
            have p1' := cell_below hbc p1
            have p2' := cell_below hbc p2
            clear p0 p1 p2 hbc
            by_cases oz : o = 0
            · have F := Lib.hid (hH.out.trans (LM.out HE.out HNo.out oz))
              clear LM LN hH
              go_wp2
              go_ret2
              exact ⟨by rw [F.out]; rfl, hB2⟩
            · have F := Lib.hid (hH.out.trans (LN.out HE.out HNo.out oz))
              have oz' : (o == 0) = false := beq_eq_false_iff_ne.2 oz
              have oz1 : 1 ≤ o := by omega
              clear LM LN hH oz
              go_wp2_with fail
              refine (pkids_any x _).mono ?_
              rintro e w3 ⟨rfl, hb3⟩
              go_wp2
              go_roundw
              case rel => exact ⟨j + 1, o - 1 + kidsD x, by omega, by go_num, by go_num, by omega, by omega, below_then hB2 hb3, F⟩
              case measure => simp [intOf]; omega
          · have HBB := Lib.hid hbb
            have F := Lib.hid (hH.out.trans (LT.out HE.out k12 hbb))
            clear hbb k12 LT LM LN hH
            have HT2 := Lib.hid (HT1.out.below ((Below.refl _ _).drew))
            have htl2 := htl.out
            go_wp2_with fail
            go_region_held3 (fun w' => w'.cell? ⟨wr.heap.size, 0, none⟩ = some (.int .i64 x.kind) ∧ w'.cell? ⟨wr.heap.size, 1, none⟩ = some (.int .i64 x.n))
              (first
                | exact ⟨cell_below hbc p0, cell_below hbc p1⟩
                | go_keep)
              ((go_at_call 135; refine (bound_any j (p.take j) htl.out _ _ _ _ HT2.out (by omega)).mono ?_; rintro e wc ⟨rfl, hbc⟩; rw [HBB.out]))
            have hB2 := below_then hB1.drew hbc
            go_wp2
            go_ret2
            exact ⟨by rw [F.out]; rfl, hB2⟩
        · have e12 : (x.kind == 12) = false := beq_eq_false_iff_ne.2 k12
          by_cases oz : o = 0
          · have F := Lib.hid (hH.out.trans (LM.out HE.out (fun e => k12 e.1) oz))
            clear LT LM LN hH k12
            go_wp2
            go_quiet (fail)
            go_wp2
            go_ret2
            exact ⟨by rw [F.out]; rfl, below_drewN hB1 _⟩
          · have F := Lib.hid (hH.out.trans (LN.out HE.out (fun e => k12 e.1) oz))
            have oz' : (o == 0) = false := beq_eq_false_iff_ne.2 oz
            have oz1 : 1 ≤ o := by omega
            clear LT LM LN hH k12 oz
            go_wp2
            go_quiet (fail)
            go_wp2_with fail
            refine (pkids_any x _).mono ?_
            rintro e w3 ⟨rfl, hb3⟩
            go_wp2
            go_roundw
            case rel => exact ⟨j + 1, o - 1 + kidsD x, by omega, by go_num, by go_num, by omega, by omega, below_then (below_drewN hB1 _) hb3, F⟩
            case measure => simp [intOf]; omega
      · have he' : (patE x != 0) = true := by rw [bne_iff_ne]; exact he
        have F := Lib.hid (hH.out.trans (LB.out he))
        clear he LB LT LM LN hH
        generalize patE x = E at *
        go_wp2
        go_ret2
        exact ⟨by rw [F.out]; rfl, hB1⟩
    · obtain rfl : j = p.length := by omega
      by_cases oz : 0 < o
      · have F := Lib.hid (hH.out.trans (pr_short oz))
        clear hH H
        go_wp2
        go_ret2
        exact ⟨by rw [F.out]; rfl, hB⟩
      · have F := Lib.hid (hH.out.trans (pr_done oz))
        have oz' : decide (0 < o) = false := decide_eq_false oz
        clear hH H oz
        go_wp2
        go_ret2
        exact ⟨by rw [F.out]; rfl, hB⟩
end Go.Proofs.YtefpolgflimlgaaDoor.Tm
