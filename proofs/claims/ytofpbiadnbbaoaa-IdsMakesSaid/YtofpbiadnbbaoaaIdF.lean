/- layer 13: the walk of IdsMakes. -/
import Derived.Test.YtofpbiadnbbaoaaIdE
namespace Go.Proofs.Ytofpbiadnbbaoaa.Ids
open Go.RowKit
set_option linter.unusedVariables false

theorem sp_mk (p g : Int) (a : 0 ≤ p) (b : p < 64) (c : 0 ≤ g) (d : g ≤ 17179869183) : spP (g * 64 + p + 1) = (p, g, 0) := by
  rw [spP_yes (by omega) (by omega)]
  have e1 : (g * 64 + p + 1 - 1) % 64 = p := by omega
  have e2 : (g * 64 + p + 1 - 1) / 64 = g := by omega
  rw [e1, e2]
theorem mk_sp (x : Int) (a : 1 ≤ x) (b : x ≤ 1099511627776) : mkP ((x - 1) % 64) ((x - 1) / 64) = (x, 0) := by
  rw [mkP_yes (by omega) (by omega) (by omega) (by omega)]
  have e : (x - 1) / 64 * 64 + (x - 1) % 64 + 1 = x := by omega
  rw [e]

set_option maxHeartbeats 1000000 in
theorem idsMakes_any (p g x : Int) (w : World) :
    Calls Try.prog 4 #[.int .i64 p, .int .i64 g, .int .i64 x] w fun e w' => e = .returned (.bool true) ∧ Below w.heap.size w w' := by
  by_cases h : p < 0 ∨ 64 ≤ p ∨ g < 0 ∨ 17179869183 < g <;> by_cases hx : x < 1 ∨ 1099511627776 < x
  · have H := Lib.hid (mkP_no h)
    have X := Lib.hid (spP_no hx)
    clear h hx
    go_enter Try.func4, Try.ntmps4
    go_wp2_with fail
    refine (make_any _ _ _).mono ?_
    rintro e w' ⟨rfl, rfl⟩
    rw [H.out]
    go_wp2_with fail
    refine (refMake_any _ _ _).mono ?_
    rintro e w' ⟨rfl, rfl⟩
    rw [H.out]
    go_wp2_with fail
    refine (split_any _ _).mono ?_
    rintro e w' ⟨rfl, rfl⟩
    rw [X.out]
    go_wp2_with fail
    refine (refSplit_any _ _).mono ?_
    rintro e w' ⟨rfl, rfl⟩
    rw [X.out]
    go_wp2_with fail
    refine (known_any _).mono ?_
    rintro e w' ⟨rfl, hB⟩
    go_wp2
    go_ret
    exact ⟨rfl, hB⟩
  · have H := Lib.hid (mkP_no h)
    have X := Lib.hid (spP_yes (x := x) (by omega) (by omega))
    have Y := Lib.hid (mk_sp x (by omega) (by omega))
    clear h hx
    go_enter Try.func4, Try.ntmps4
    go_wp2_with fail
    refine (make_any _ _ _).mono ?_
    rintro e w' ⟨rfl, rfl⟩
    rw [H.out]
    go_wp2_with fail
    refine (refMake_any _ _ _).mono ?_
    rintro e w' ⟨rfl, rfl⟩
    rw [H.out]
    go_wp2_with fail
    refine (split_any _ _).mono ?_
    rintro e w' ⟨rfl, rfl⟩
    rw [X.out]
    go_wp2_with fail
    refine (refSplit_any _ _).mono ?_
    rintro e w' ⟨rfl, rfl⟩
    rw [X.out]
    go_wp2_with fail
    refine (make_any _ _ _).mono ?_
    rintro e w' ⟨rfl, rfl⟩
    rw [Y.out]
    go_wp2_with fail
    refine (known_any _).mono ?_
    rintro e w' ⟨rfl, hB⟩
    go_wp2
    go_ret
    exact ⟨rfl, hB⟩
  · have H := Lib.hid (mkP_yes (p := p) (g := g) (by omega) (by omega) (by omega) (by omega))
    have X := Lib.hid (spP_no hx)
    have Z := Lib.hid (sp_mk p g (by omega) (by omega) (by omega) (by omega))
    clear h hx
    go_enter Try.func4, Try.ntmps4
    go_wp2_with fail
    refine (make_any _ _ _).mono ?_
    rintro e w' ⟨rfl, rfl⟩
    rw [H.out]
    go_wp2_with fail
    refine (refMake_any _ _ _).mono ?_
    rintro e w' ⟨rfl, rfl⟩
    rw [H.out]
    go_wp2_with fail
    refine (split_any _ _).mono ?_
    rintro e w' ⟨rfl, rfl⟩
    rw [X.out]
    go_wp2_with fail
    refine (refSplit_any _ _).mono ?_
    rintro e w' ⟨rfl, rfl⟩
    rw [X.out]
    go_wp2_with fail
    refine (split_any _ _).mono ?_
    rintro e w' ⟨rfl, rfl⟩
    rw [Z.out]
    go_wp2_with fail
    refine (known_any _).mono ?_
    rintro e w' ⟨rfl, hB⟩
    go_wp2
    go_ret
    exact ⟨rfl, hB⟩
  · have H := Lib.hid (mkP_yes (p := p) (g := g) (by omega) (by omega) (by omega) (by omega))
    have X := Lib.hid (spP_yes (x := x) (by omega) (by omega))
    have Y := Lib.hid (mk_sp x (by omega) (by omega))
    have Z := Lib.hid (sp_mk p g (by omega) (by omega) (by omega) (by omega))
    clear h hx
    go_enter Try.func4, Try.ntmps4
    go_wp2_with fail
    refine (make_any _ _ _).mono ?_
    rintro e w' ⟨rfl, rfl⟩
    rw [H.out]
    go_wp2_with fail
    refine (refMake_any _ _ _).mono ?_
    rintro e w' ⟨rfl, rfl⟩
    rw [H.out]
    go_wp2_with fail
    refine (split_any _ _).mono ?_
    rintro e w' ⟨rfl, rfl⟩
    rw [X.out]
    go_wp2_with fail
    refine (refSplit_any _ _).mono ?_
    rintro e w' ⟨rfl, rfl⟩
    rw [X.out]
    go_wp2_with fail
    refine (split_any _ _).mono ?_
    rintro e w' ⟨rfl, rfl⟩
    rw [Z.out]
    go_wp2_with fail
    refine (make_any _ _ _).mono ?_
    rintro e w' ⟨rfl, rfl⟩
    rw [Y.out]
    go_wp2_with fail
    refine (known_any _).mono ?_
    rintro e w' ⟨rfl, hB⟩
    go_wp2
    go_ret
    exact ⟨rfl, hB⟩
end Go.Proofs.Ytofpbiadnbbaoaa.Ids
