/- pattern.Match's inner function: what a hole does with its part. -/
import Derived.Test.YtefpolgflimlgaaDoorOuts
import Derived.Test.YtefpolgflimlgaaDoorSameW
import Derived.Deep.RegionHeld3
import Derived.Deep.DrawnRows
namespace Go.Proofs.YtefpolgflimlgaaDoor.Tm
open Go.RowKit
set_option linter.unusedVariables false
set_option linter.unusedSimpArgs false
attribute [local go_sem ↓] Go.wp_at_zero Go.wp_at_succ

theorem frozen_keep {w W : World} (h : Below w.heap.size w W) {a : Addr} {v : Value} (hc : w.cell? a = some v) (hf : w.frozen? a = false) : W.frozen? a = false := (h.frozen (cell_lt hc)).trans hf
set_option maxRecDepth 100000 in
set_option maxHeartbeats 4000000 in
theorem held_bind (m : Nat) (hm : m < 16) (t : ByteArray) (part : List CellD) (n : Nat) (hn : part.length = n) (A : Option Addr) (c : Nat) (ob xb : Nat) (base og : Nat) (vs : Array Value) (R : List (List CellD)) (w : World) (hr : Reads w A part) (hl : part.length ≤ 1024)
    (hob : w.cell? ⟨ob, 0, none⟩ = some (.slice (some ⟨og, 0, none⟩) 16 16)) (ho : Outs w base og vs R) (hR : R.length = 16) (hb : base ≤ w.heap.size) (hne : og ≠ ob) :
    Calls Tryd.prog 122 #[.agg #[.int .i64 12, .int .i64 m, .string t], .slice A n c, .pointer (some ⟨ob, 0, none⟩), .pointer (some ⟨xb, 0, none⟩)] w fun e w' =>
      e = .returned (.bool true) ∧ (∃ vs', Outs w' base og vs' (R.set m part)) ∧ w.grownBy w' (some og) := by
  subst hn
  have hB0 := below_one w (.cells #[.int .i64 12, .int .i64 m, .string t] 95)
  have p0 := cell_below hB0 hob
  have HO0 := ho.below hB0
  obtain ⟨A0, c0, p2, _⟩ := HO0.cell (n := m) (by omega)
  have p3 := HO0.free m
  have p1 : (w.alloc (.cells #[.int .i64 12, .int .i64 m, .string t] 95)).cell? ⟨w.heap.size, 1, none⟩ = some (.int .i64 m) := by go_cell
  have HR := Lib.hid (hr.below (hB0.drew))
  have HO := Lib.hid (HO0.below ((Below.refl _ _).drew))
  have HB := Lib.hid hB0
  have hi1 : (m : Int) < 16 := by omega
  have hi0 : (0 : Int) ≤ (m : Int) := Int.natCast_nonneg _
  have hog := ho.lt
  have hnw : og ≠ w.heap.size := by omega
  clear hr ho HO0 hob
  go_enter Tryd.func122, Tryd.ntmps122
  go_wp2_with fail
  generalize w.alloc (.cells #[.int .i64 12, .int .i64 m, .string t] 95) = W1 at *
  go_region_held3 (fun w' => w'.cell? ⟨ob, 0, none⟩ = some (.slice (some ⟨og, 0, none⟩) 16 16) ∧ w'.cell? ⟨w.heap.size, 1, none⟩ = some (.int .i64 m))
    (first
      | exact ⟨cell_below hbc p0, cell_below hbc p1⟩
      | exact ⟨(World.cell?_setCell_far wc ⟨og, m, none⟩ ⟨ob, 0, none⟩ _ hne).trans (cell_below hbc p0), (World.cell?_setCell_far wc ⟨og, m, none⟩ ⟨w.heap.size, 1, none⟩ _ hnw).trans (cell_below hbc p1)⟩
      | go_keep)
    ((go_at_call 121; refine (own_any _ part rfl A c _ HR.out (by omega)).mono ?_; rintro e wc ⟨A1, c1, rfl, hrow, hbc⟩; have t2 := cell_below hbc p2; have t3 := frozen_keep hbc p2 p3))
  have HS := Lib.hid (HO.out.set_ hbc (n := m) (by omega) hrow (Nat.le_trans hb HB.out.size))
  have HG := Lib.hid ((grown_trans (grown_trans (grown_below HB.out (some og)) (grown_below (show Below W1.heap.size W1 wc from below_then ((Below.refl _ _).drew) hbc) (some og))) (grown_setCell wc og m (.slice A1 part.length c1))))
  go_wp2
  go_ret
  exact ⟨rfl, ⟨_, HS.out⟩, HG.out⟩
set_option maxRecDepth 100000 in
set_option maxHeartbeats 2000000 in
theorem held_same (k m : Nat) (t : ByteArray) (part : List CellD) (n : Nat) (hn : part.length = n) (A : Option Addr) (c : Nat) (ob xb : Nat) (x : List (List CellD)) (X : Option Addr) (cx : Nat) (w : World) (hr : Reads w A part) (hl : part.length ≤ 1024)
    (hxb : w.cell? ⟨xb, 0, none⟩ = some (.slice X x.length cx)) (hx : Reads2 w X x) (hfx : Fine2 x) (hm : m < x.length) :
    Calls Tryd.prog 122 #[.agg #[.int .i64 13, .int .i64 m, .string t], .slice A n c, .pointer (some ⟨ob, 0, none⟩), .pointer (some ⟨xb, 0, none⟩)] w fun e w' =>
      e = .returned (.bool (decide (part = x[m]))) ∧ Below w.heap.size w w' := by
  subst hn
  have hB0 := below_one w (.cells #[.int .i64 13, .int .i64 m, .string t] 95)
  have p0 := cell_below hB0 hxb
  obtain ⟨b, o, rfl, Am, cm, q0, q1, q2⟩ := hx m hm
  have q0' := cell_below hB0 q0
  have hlm := (hfx m hm).lim
  have HR := Lib.hid (hr.below hB0)
  have HM := Lib.hid (q2.below hB0)
  have hi1 : (m : Int) < (x.length : Int) := by omega
  have hi0 : (0 : Int) ≤ (m : Int) := Int.natCast_nonneg _
  clear hr hx hxb q0 q2 hfx
  go_enter Tryd.func122, Tryd.ntmps122
  go_wp2_with fail
  refine (wsame_any A Am c cm part x[m] _ HR.out HM.out (by omega) hlm).mono ?_
  rintro e w1 ⟨rfl, hb⟩
  go_wp2
  go_ret
  exact ⟨rfl, below_then hB0 hb⟩
set_option maxRecDepth 100000 in
set_option maxHeartbeats 2000000 in
theorem held_any (n : Int) (t : ByteArray) (P Q R : Value) (w : World) :
    Calls Tryd.prog 122 #[.agg #[.int .i64 11, .int .i64 n, .string t], P, Q, R] w fun e w' => e = .returned (.bool true) ∧ Below w.heap.size w w' := by
  have hB0 := below_one w (.cells #[.int .i64 11, .int .i64 n, .string t] 95)
  go_enter Tryd.func122, Tryd.ntmps122
  go_wp2
  go_ret
  exact ⟨rfl, hB0⟩
end Go.Proofs.YtefpolgflimlgaaDoor.Tm
