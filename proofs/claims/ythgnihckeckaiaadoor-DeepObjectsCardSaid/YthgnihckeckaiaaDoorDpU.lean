/- deep.cost, Cells, term; the document's Cost and Cells. -/
import Derived.Test.YthgnihckeckaiaaDoorDpW
import Derived.BigQuiet
namespace Go.Proofs.YthgnihckeckaiaaDoor.Tm
open Go.RowKit
set_option linter.unusedVariables false
set_option linter.unusedSimpArgs false

theorem tot_take {l : List CellD} {j : Nat} (h : j < l.length) : totalA (l.take (j + 1)) = totalA (l.take j) + costC l[j] := by
  rw [List.take_succ_eq_append_getElem h, totalA_snoc]
theorem dcost_text {c : CellD} (he : cellE c = 0) (h2 : c.kind ≠ 2) (h8 : c.kind ≠ 8) : c.text.size = 0 := by
  have := cellE_text he
  omega
set_option maxHeartbeats 4000000 in
theorem dcost_any (c : CellD) (w : World) (hc : WfC c) (he : cellE c = 0) :
    Calls Tryd.prog 77 #[.agg #[.int .i64 c.kind, .int .i64 c.n, .string c.text]] w fun e w' => e = .returned (.int .i64 (costC c : Int)) ∧ Below w.heap.size w w' := by
  have hk := cellE_kind he
  have ht := cellE_text he
  have htu := cellE_tuple he
  have hd := dcost_text he
  have hof := fun w => wofint_any c.n w hc.n0 hc.n1
  have hle := cost_le he
  have hkd := kidsD_le c
  have hB0 := below_one w (.cells #[.int .i64 c.kind, .int .i64 c.n, .string c.text] 40)
  have hB1 := below_alloc' hB0 (.cells #[.int .i64 0, .int .i64 2, .int .i64 1, .int .i64 2, .int .i64 2, .int .i64 1, .int .i64 0, .int .i64 2, .int .i64 1] 156)
  have HB1 := Lib.hid hB1
  have hK : c.kind = 1 ∨ c.kind = 2 ∨ c.kind = 3 ∨ c.kind = 4 ∨ c.kind = 5 ∨ c.kind = 6 ∨ c.kind = 7 ∨ c.kind = 8 := by omega
  rcases hK with k | k | k | k | k | k | k | k
  · by_cases hs : smallI c.n
    · have H := Lib.hid (show costC c = 0 by unfold costC; rw [if_pos ⟨k, hs⟩])
      simp only [if_pos hs] at hof
      rw [k] at HB1 ⊢
      clear he hk ht htu hd hs hc hB0 hB1
      go_enter Tryd.func77, Tryd.ntmps77
      go_wp2_with fail
      refine (hof _).mono ?_
      rintro e w' ⟨rfl, rfl⟩
      go_wp2
      go_ret
      exact ⟨by rw [H.out]; rfl, HB1.out⟩
    · have H := Lib.hid (show costC c = 2 by unfold costC plainK; rw [if_neg (fun e => hs e.2), if_pos (by omega), if_neg (by omega), hd (by omega) (by omega)])
      simp only [if_neg hs] at hof
      rw [k] at HB1 ⊢
      clear he hk ht htu hd hs hc hB0 hB1
      go_enter Tryd.func77, Tryd.ntmps77
      go_wp2_with fail
      refine (hof _).mono ?_
      rintro e w' ⟨rfl, rfl⟩
      go_wp2
      go_ret
      exact ⟨by rw [H.out]; rfl, HB1.out⟩
  · have H := Lib.hid (show (costC c : Int) = 1 + ((c.text.size : Int) + 7) / 8 by unfold costC plainK; rw [if_neg (by omega), if_neg (by omega), if_pos (by omega), if_neg (by omega)]; omega)
    have htx := ht
    rw [k] at HB1 ⊢
    clear he hk htu hd hc hB0 hB1 hof
    go_enter Tryd.func77, Tryd.ntmps77
    go_wp2_with fail
    go_quiet (fail)
    go_wp2
    go_ret
    exact ⟨by rw [H.out]; first | rfl | simp, by first | exact HB1.out | exact below_drewA HB1.out _⟩
  · have H := Lib.hid (show costC c = 2 by unfold costC plainK; rw [if_neg (by omega), if_pos (by omega), if_neg (by omega), hd (by omega) (by omega)])
    rw [k] at HB1 ⊢
    clear he hk ht htu hd hc hB0 hB1 hof
    go_enter Tryd.func77, Tryd.ntmps77
    go_wp2
    go_ret
    exact ⟨by rw [H.out]; rfl, HB1.out⟩
  · have H := Lib.hid (show costC c = 2 by unfold costC plainK; rw [if_neg (by omega), if_pos (by omega), if_neg (by omega), hd (by omega) (by omega)])
    rw [k] at HB1 ⊢
    clear he hk ht htu hd hc hB0 hB1 hof
    go_enter Tryd.func77, Tryd.ntmps77
    go_wp2
    go_ret
    exact ⟨by rw [H.out]; rfl, HB1.out⟩
  · have hn := htu k
    have H := Lib.hid (show (costC c : Int) = 1 + c.n by unfold costC plainK; rw [if_neg (by omega), if_neg (by omega), if_pos (by omega), if_pos (by omega), hd (by omega) (by omega)]; omega)
    rw [k] at HB1 ⊢
    clear he hk ht htu hd hc hB0 hB1 hof
    go_enter Tryd.func77, Tryd.ntmps77
    go_wp2_with fail
    go_quiet (fail)
    go_wp2
    go_ret
    exact ⟨by rw [H.out]; first | rfl | simp, by first | exact HB1.out | exact below_drewA HB1.out _⟩
  · have H := Lib.hid (show costC c = 0 from cost_small he (.inl k))
    rw [k] at HB1 ⊢
    clear he hk ht htu hd hc hB0 hB1 hof
    go_enter Tryd.func77, Tryd.ntmps77
    go_wp2
    go_ret
    exact ⟨by rw [H.out]; rfl, HB1.out⟩
  · have H := Lib.hid (show costC c = 2 by unfold costC plainK; rw [if_neg (by omega), if_pos (by omega), if_neg (by omega), hd (by omega) (by omega)])
    rw [k] at HB1 ⊢
    clear he hk ht htu hd hc hB0 hB1 hof
    go_enter Tryd.func77, Tryd.ntmps77
    go_wp2
    go_ret
    exact ⟨by rw [H.out]; rfl, HB1.out⟩
  · have H := Lib.hid (show (costC c : Int) = 1 + ((c.text.size : Int) + 7) / 8 by unfold costC plainK; rw [if_neg (by omega), if_neg (by omega), if_pos (by omega), if_neg (by omega)]; omega)
    have htx := ht
    rw [k] at HB1 ⊢
    clear he hk htu hd hc hB0 hB1 hof
    go_enter Tryd.func77, Tryd.ntmps77
    go_wp2_with fail
    go_quiet (fail)
    go_wp2
    go_ret
    exact ⟨by rw [H.out]; first | rfl | simp, by first | exact HB1.out | exact below_drewA HB1.out _⟩
end Go.Proofs.YthgnihckeckaiaaDoor.Tm
