/- The document's Cost and Cells. -/
import Derived.Test.YtemamhjcboelcaaDoorDpC
namespace Go.Proofs.YtemamhjcboelcaaDoor.Tm
open Go.RowKit
set_option linter.unusedVariables false
set_option linter.unusedSimpArgs false

set_option maxHeartbeats 4000000 in
theorem rcost_any (c : CellD) (w : World) (hc : WfC c) (he : cellE c = 0) :
    Calls Tryd.prog 63 #[.agg #[.int .i64 c.kind, .int .i64 c.n, .string c.text]] w fun e w' => e = .returned (.int .i64 (costC c : Int)) ∧ Below w.heap.size w w' := by
  have hk := cellE_kind he
  have ht := cellE_text he
  have htu := cellE_tuple he
  have hd := dcost_text he
  have hle := cost_le he
  have hkd := kidsD_le c
  have HB1 := Lib.hid (below_one w (.cells #[.int .i64 c.kind, .int .i64 c.n, .string c.text] 40))
  have n0 := hc.n0
  have n1 := hc.n1
  have hK : c.kind = 1 ∨ c.kind = 2 ∨ c.kind = 3 ∨ c.kind = 4 ∨ c.kind = 5 ∨ c.kind = 6 ∨ c.kind = 7 ∨ c.kind = 8 := by omega
  rcases hK with k | k | k | k | k | k | k | k
  · by_cases h1 : c.n < -576460752303423488
    · have hs : ¬ smallI c.n := fun h => by have := h.1; omega
      have H := Lib.hid (show costC c = 2 by unfold costC plainK; rw [if_neg (fun e => hs e.2), if_pos (by omega), if_neg (by omega), hd (by omega) (by omega)])
      have b1 : decide (c.n < -576460752303423488) = true := decide_eq_true h1
      rw [k] at HB1 ⊢
      clear he hk ht htu hd hs hc
      go_enter Tryd.func63, Tryd.ntmps63
      go_wp2
      go_ret
      exact ⟨by rw [H.out]; rfl, HB1.out⟩
    · have b1 : decide (c.n < -576460752303423488) = false := decide_eq_false h1
      by_cases h2 : 576460752303423488 ≤ c.n
      · have hs : ¬ smallI c.n := fun h => by have := h.2; omega
        have H := Lib.hid (show costC c = 2 by unfold costC plainK; rw [if_neg (fun e => hs e.2), if_pos (by omega), if_neg (by omega), hd (by omega) (by omega)])
        have b2 : decide (576460752303423488 ≤ c.n) = true := decide_eq_true h2
        rw [k] at HB1 ⊢
        clear he hk ht htu hd hs hc
        go_enter Tryd.func63, Tryd.ntmps63
        go_wp2
        go_ret
        exact ⟨by rw [H.out]; rfl, HB1.out⟩
      · have H := Lib.hid (show costC c = 0 by unfold costC; rw [if_pos ⟨k, by unfold smallI; omega⟩])
        have b2 : decide (576460752303423488 ≤ c.n) = false := decide_eq_false h2
        rw [k] at HB1 ⊢
        clear he hk ht htu hd hc
        go_enter Tryd.func63, Tryd.ntmps63
        go_wp2
        go_ret
        exact ⟨by rw [H.out]; rfl, HB1.out⟩
  · have H := Lib.hid (show (costC c : Int) = 1 + ((c.text.size : Int) + 7) / 8 by unfold costC plainK; rw [if_neg (by omega), if_neg (by omega), if_pos (by omega), if_neg (by omega)]; omega)
    have htx := ht
    rw [k] at HB1 ⊢
    clear he hk htu hd hc
    go_enter Tryd.func63, Tryd.ntmps63
    go_wp2
    go_ret
    exact ⟨by rw [H.out]; first | rfl | simp, HB1.out⟩
  · have H := Lib.hid (show costC c = 2 by unfold costC plainK; rw [if_neg (by omega), if_pos (by omega), if_neg (by omega), hd (by omega) (by omega)])
    rw [k] at HB1 ⊢
    clear he hk ht htu hd hc
    go_enter Tryd.func63, Tryd.ntmps63
    go_wp2
    go_ret
    exact ⟨by rw [H.out]; rfl, HB1.out⟩
  · have H := Lib.hid (show costC c = 2 by unfold costC plainK; rw [if_neg (by omega), if_pos (by omega), if_neg (by omega), hd (by omega) (by omega)])
    rw [k] at HB1 ⊢
    clear he hk ht htu hd hc
    go_enter Tryd.func63, Tryd.ntmps63
    go_wp2
    go_ret
    exact ⟨by rw [H.out]; rfl, HB1.out⟩
  · have hn := htu k
    have H := Lib.hid (show (costC c : Int) = 1 + c.n by unfold costC plainK; rw [if_neg (by omega), if_neg (by omega), if_pos (by omega), if_pos (by omega), hd (by omega) (by omega)]; omega)
    rw [k] at HB1 ⊢
    clear he hk ht htu hd hc
    go_enter Tryd.func63, Tryd.ntmps63
    go_wp2
    go_ret
    exact ⟨by rw [H.out]; first | rfl | simp, HB1.out⟩
  · have H := Lib.hid (show costC c = 0 from cost_small he (.inl k))
    rw [k] at HB1 ⊢
    clear he hk ht htu hd hc
    go_enter Tryd.func63, Tryd.ntmps63
    go_wp2
    go_ret
    exact ⟨by rw [H.out]; rfl, HB1.out⟩
  · have H := Lib.hid (show costC c = 2 by unfold costC plainK; rw [if_neg (by omega), if_pos (by omega), if_neg (by omega), hd (by omega) (by omega)])
    rw [k] at HB1 ⊢
    clear he hk ht htu hd hc
    go_enter Tryd.func63, Tryd.ntmps63
    go_wp2
    go_ret
    exact ⟨by rw [H.out]; rfl, HB1.out⟩
  · have H := Lib.hid (show (costC c : Int) = 1 + ((c.text.size : Int) + 7) / 8 by unfold costC plainK; rw [if_neg (by omega), if_neg (by omega), if_pos (by omega), if_neg (by omega)]; omega)
    have htx := ht
    rw [k] at HB1 ⊢
    clear he hk htu hd hc
    go_enter Tryd.func63, Tryd.ntmps63
    go_wp2
    go_ret
    exact ⟨by rw [H.out]; first | rfl | simp, HB1.out⟩
set_option maxHeartbeats 2000000 in
theorem rcells_any (w : World) (t : List CellD) (A : Option Addr) (cap : Nat) (hr : Reads w A t) (hc : ∀ c ∈ t, cellE c = 0 ∧ WfC c) (hl : t.length ≤ 1024) :
    Calls Tryd.prog 26 #[.slice A t.length cap] w fun e w' => e = .returned (.int .i64 (totalA t : Int)) ∧ Below w.heap.size w w' := by
  have htl := tot_le (fun c h => (hc c h).1)
  have HR := Lib.hid hr
  have HC := Lib.hid hc
  clear hr hc
  go_enter Tryd.func26, Tryd.ntmps26
  go_wp2_with fail
  go_loopw [3, 8] (fun s i wr => ∃ j : Nat, j ≤ t.length ∧ s = .int .i64 (totalA (t.take j) : Int) ∧ i = .int .i64 (j : Int) ∧ Hid (Below w.heap.size w wr)) (fun s i wr => t.length - (intOf i).toNat)
  case atStart => exact ⟨0, Nat.zero_le _, rfl, rfl, Lib.hid (Below.refl _ _)⟩
  case round =>
    obtain ⟨j, hj, rfl, rfl, hB⟩ := hrel
    by_cases hlt : j < t.length
    · obtain ⟨b, o, rfl, hcc⟩ := HR.out j hlt
      obtain ⟨hc0, hc1, hc2⟩ := hcc.below hB.out
      have hcw := HC.out t[j] (List.getElem_mem hlt)
      have htk := Lib.hid (tot_take hlt)
      have hle := total_take_le t (j + 1)
      rw [htk.out] at hle
      generalize totalA (t.take j) = S0 at *
      generalize t[j] = d at *
      have hB0 := below_one wr (.cells #[.int .i64 d.kind, .int .i64 d.n, .string d.text] 40)
      go_wp2_with fail
      refine (rcost_any d _ hcw.2 hcw.1).mono ?_
      rintro e w2 ⟨rfl, hb⟩
      have HB2 := Lib.hid (below_then hB.out (below_then hB0 hb))
      generalize costC d = S1 at *
      clear hcw hb hB0 hcc hc0 hc1 hc2
      go_wp2
      go_roundw
      case rel => exact ⟨j + 1, by omega, by rw [htk.out]; go_num, by go_num, HB2⟩
      case measure => simp [intOf]; omega
    · obtain rfl : j = t.length := by omega
      rw [List.take_length]
      go_wp2
      go_ret
      exact ⟨rfl, hB.out⟩
end Go.Proofs.YtemamhjcboelcaaDoor.Tm
