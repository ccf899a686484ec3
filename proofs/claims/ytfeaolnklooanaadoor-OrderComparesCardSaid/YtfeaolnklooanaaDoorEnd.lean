/- End of both texts tells endE. -/
import Derived.Test.YtfeaolnklooanaaDoorBase
import Derived.Handy
namespace Go.Proofs.YtfeaolnklooanaaDoor.Tm
open Go.RowKit
set_option linter.unusedVariables false
set_option linter.unusedSimpArgs false

set_option maxHeartbeats 2000000 in
theorem wend_any (l : List CellD) (A : Option Addr) (cap : Nat) (n : Int) (w : World) (hr : Reads w A l) (hl : l.length ≤ 1000000000000000) (hn : -9223372036854775808 ≤ n ∧ n < 9223372036854775808) :
    Calls Tryd.prog 39 #[.slice A l.length cap, .int .i64 n] w fun e w' => e = .returned (.tuple #[.int .i64 (endE l n).1, .int .i64 (endE l n).2]) ∧ Below w.heap.size w w' := by
  by_cases h0 : n < 0
  · have H := Lib.hid (show endE l n = (0, 1) by rw [endE, if_pos (.inl h0)])
    clear hr
    go_enter Tryd.func39, Tryd.ntmps39
    go_wp2
    go_ret2
    exact ⟨by rw [H.out]; rfl, Below.refl _ _⟩
  by_cases h1 : (l.length : Int) ≤ n
  · have H := Lib.hid (show endE l n = (0, 1) by rw [endE, if_pos (.inr h1)])
    clear hr
    go_enter Tryd.func39, Tryd.ntmps39
    go_wp2
    go_ret2
    exact ⟨by rw [H.out]; rfl, Below.refl _ _⟩
  have H := Lib.hid (show endE l n = endL (l.drop n.toNat) n.toNat 1 by rw [endE, if_neg (by omega)])
  obtain ⟨m, rfl⟩ : ∃ m : Nat, n = m := ⟨n.toNat, by omega⟩
  rw [Int.toNat_natCast] at H
  have HR := Lib.hid hr
  clear hr
  have hm : m < l.length := by omega
  have hl0 : (decide ((m : Int) < 0)) = false := decide_eq_false (by omega)
  have hl1 : (decide ((l.length : Int) ≤ (m : Int))) = false := decide_eq_false (by omega)
  go_enter Tryd.func39, Tryd.ntmps39
  go_wp2_with fail
  go_loopw [6, 7] (fun o i wr => ∃ j : Nat, ∃ ov : Int, j ≤ l.length ∧ o = .int .i64 ov ∧ i = .int .i64 j ∧ -(j : Int) - 1 ≤ ov ∧ ov ≤ 1 + 255 * (j : Int) ∧ Below w.heap.size w wr ∧ Hid (endE l m = endL (l.drop j) j ov)) (fun o i wr => l.length - (intOf i).toNat)
  case atStart => exact ⟨m, 1, by omega, rfl, rfl, by omega, by omega, Below.refl _ _, H⟩
  case round =>
    obtain ⟨j, ov, hj, rfl, rfl, ho0, ho1, hB, hH⟩ := hrel
    by_cases hlt : j < l.length
    · obtain ⟨b, o, rfl, hc⟩ := HR.out j hlt
      obtain ⟨hc0, hc1, hc2⟩ := hc.below hB
      have hk := kidsD_le l[j]
      go_wp2_with fail
      refine (behind_any l[j] _).mono ?_
      rintro e w' ⟨rfl, hb⟩
      have hB2 := below_then hB hb
      by_cases ho : ov - 1 + kidsD l[j] = 0
      · have hF := Lib.hid (hH.out.trans (end_done hlt ho))
        have hz : ov + ((kidsD l[j] : Int) - 1) = 0 := by omega
        clear hH H
        go_wp2
        go_ret2
        exact ⟨by rw [hF.out]; rfl, hB2⟩
      · have hF := Lib.hid (hH.out.trans (end_next hlt ho))
        have hz : ¬ ov + ((kidsD l[j] : Int) - 1) = 0 := by omega
        clear hH H
        go_wp2
        go_roundw
        case rel => exact ⟨j + 1, ov - 1 + kidsD l[j], by omega, by go_num, by go_num, by omega, by omega, hB2, hF⟩
        case measure => simp [intOf]; omega
    · have hF := Lib.hid (hH.out.trans (end_short (by omega)))
      clear hH H
      go_wp2
      go_ret2
      exact ⟨by rw [hF.out]; rfl, hB⟩
set_option maxHeartbeats 2000000 in
theorem rend_any (l : List CellD) (A : Option Addr) (cap : Nat) (n : Int) (w : World) (hr : Reads w A l) (hl : l.length ≤ 1000000000000000) (hn : -9223372036854775808 ≤ n ∧ n < 9223372036854775808) :
    Calls Tryd.prog 52 #[.slice A l.length cap, .int .i64 n] w fun e w' => e = .returned (.tuple #[.int .i64 (endE l n).1, .int .i64 (endE l n).2]) ∧ Below w.heap.size w w' := by
  by_cases h0 : n < 0
  · have H := Lib.hid (show endE l n = (0, 1) by rw [endE, if_pos (.inl h0)])
    clear hr
    go_enter Tryd.func52, Tryd.ntmps52
    go_wp2
    go_ret2
    exact ⟨by rw [H.out]; rfl, Below.refl _ _⟩
  by_cases h1 : (l.length : Int) ≤ n
  · have H := Lib.hid (show endE l n = (0, 1) by rw [endE, if_pos (.inr h1)])
    clear hr
    go_enter Tryd.func52, Tryd.ntmps52
    go_wp2
    go_ret2
    exact ⟨by rw [H.out]; rfl, Below.refl _ _⟩
  have H := Lib.hid (show endE l n = endL (l.drop n.toNat) n.toNat 1 by rw [endE, if_neg (by omega)])
  obtain ⟨m, rfl⟩ : ∃ m : Nat, n = m := ⟨n.toNat, by omega⟩
  rw [Int.toNat_natCast] at H
  have HR := Lib.hid hr
  clear hr
  have hm : m < l.length := by omega
  have hl0 : (decide ((m : Int) < 0)) = false := decide_eq_false (by omega)
  have hl1 : (decide ((l.length : Int) ≤ (m : Int))) = false := decide_eq_false (by omega)
  go_enter Tryd.func52, Tryd.ntmps52
  go_wp2_with fail
  go_loopw [6, 7] (fun o i wr => ∃ j : Nat, ∃ ov : Int, j ≤ l.length ∧ o = .int .i64 ov ∧ i = .int .i64 j ∧ -(j : Int) - 1 ≤ ov ∧ ov ≤ 1 + 255 * (j : Int) ∧ Below w.heap.size w wr ∧ Hid (endE l m = endL (l.drop j) j ov)) (fun o i wr => l.length - (intOf i).toNat)
  case atStart => exact ⟨m, 1, by omega, rfl, rfl, by omega, by omega, Below.refl _ _, H⟩
  case round =>
    obtain ⟨j, ov, hj, rfl, rfl, ho0, ho1, hB, hH⟩ := hrel
    by_cases hlt : j < l.length
    · obtain ⟨b, o, rfl, hc⟩ := HR.out j hlt
      obtain ⟨hc0, hc1, hc2⟩ := hc.below hB
      have hk := kidsD_le l[j]
      go_wp2_with fail
      refine (rkids_any l[j] _).mono ?_
      rintro e w' ⟨rfl, hb⟩
      have hB2 := below_then hB hb
      by_cases ho : ov - 1 + kidsD l[j] = 0
      · have hF := Lib.hid (hH.out.trans (end_done hlt ho))
        clear hH H
        go_wp2
        go_ret2
        exact ⟨by rw [hF.out]; rfl, hB2⟩
      · have hF := Lib.hid (hH.out.trans (end_next hlt ho))
        clear hH H
        go_wp2
        go_roundw
        case rel => exact ⟨j + 1, ov - 1 + kidsD l[j], by omega, by go_num, by go_num, by omega, by omega, hB2, hF⟩
        case measure => simp [intOf]; omega
    · have hF := Lib.hid (hH.out.trans (end_short (by omega)))
      clear hH H
      go_wp2
      go_ret2
      exact ⟨by rw [hF.out]; rfl, hB⟩
end Go.Proofs.YtfeaolnklooanaaDoor.Tm
