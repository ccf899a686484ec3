/- The program's Same: are two lists of cells alike? -/
import Derived.Test.YthgnihckeckaiaaDoorRows
import Derived.Test.YthgnihckeckaiaaDoorBase
import Derived.Handy
import Derived.BigQuiet
import Derived.WalkSmall
import Derived.RegionTactic
import Derived.Deep.QuietTactic
namespace Go.Proofs.YthgnihckeckaiaaDoor.Tm
open Go.RowKit
set_option linter.unusedVariables false
set_option linter.unusedSimpArgs false

set_option maxHeartbeats 2000000 in
theorem wsame_any (A B : Option Addr) (c1 c2 : Nat) (xs ys : List CellD) (w : World) (hx : Reads w A xs) (hy : Reads w B ys) (hm : xs.length ≤ 1000000000000000) (hm2 : ys.length ≤ 1000000000000000) :
    Calls Tryd.prog 91 #[.slice A xs.length c1, .slice B ys.length c2] w fun e w' => e = .returned (.bool (decide (xs = ys))) ∧ Below w.heap.size w w' := by
  by_cases hl : xs.length = ys.length
  · have hb : ((xs.length : Int) != (ys.length : Int)) = false := by rw [bne_eq_false_iff_eq]; omega
    have HX := Lib.hid hx
    have HY := Lib.hid hy
    have HL := Lib.hid hl
    have hle1 : xs.length ≤ ys.length := by omega
    have hle2 : ys.length ≤ xs.length := by omega
    clear hx hy hl
    go_enter Tryd.func91, Tryd.ntmps91
    go_wp2_with fail
    go_loopw [14] (fun i wr => ∃ k : Nat, k ≤ xs.length ∧ i = .int .i64 k ∧ Below w.heap.size w wr ∧ Hid (∀ j (h1 : j < xs.length) (h2 : j < ys.length), j < k → xs[j] = ys[j])) (fun i wr => xs.length - (intOf i).toNat)
    case atStart => exact ⟨0, by omega, rfl, Below.refl _ _, fun j _ _ h => absurd h (Nat.not_lt_zero j)⟩
    case round =>
      obtain ⟨k, hk, rfl, hB, hsame⟩ := hrel
      by_cases hlt : k < xs.length
      · have hlt2 : k < ys.length := by omega
        obtain ⟨g1, o1, hA, c1'⟩ := HX.out k hlt
        obtain ⟨g2, o2, hBa, c2'⟩ := HY.out k hlt2
        subst hA hBa
        obtain ⟨d0, d1, d2⟩ := c1'.below hB
        obtain ⟨e0, e1, e2⟩ := c2'.below hB
        have hi1 : (k : Int) < (xs.length : Int) := by omega
        have hi2 : (k : Int) < (ys.length : Int) := by omega
        clear c1' c2'
        have E0 := fun o => cell_below (below_one wr o) e0
        have E1 := fun o => cell_below (below_one wr o) e1
        have E2 := fun o => cell_below (below_one wr o) e2
        by_cases he : xs[k] = ys[k]
        · have HE := Lib.hid he
          rw [he] at d0 d1 d2
          clear he
          go_wp2
          go_quiet (fail)
          go_wp2
          go_roundw
          case rel => exact ⟨k + 1, by omega, by go_num, below_drewN (below_then hB (below_one _ _)) _, fun j h1 h2 h3 => by
            rcases Nat.lt_succ_iff_lt_or_eq.1 h3 with e | rfl
            · exact hsame.out j h1 h2 e
            · exact HE.out⟩
          case measure => simp [intOf]; omega
        · have hne : decide (xs = ys) = false := by
            rw [decide_eq_false_iff_not]; intro e
            exact he (by simp [e])
          have HN := Lib.hid hne
          clear hne
          generalize xs[k] = x at d0 d1 d2 he
          generalize ys[k] = y at e0 e1 e2 he E0 E1 E2
          by_cases hk : x.kind = y.kind
          · by_cases hn : x.n = y.n
            · have ht : (x.text.toList == y.text.toList) = false := by
                rw [beq_eq_false_iff_ne]
                intro e
                apply he
                obtain ⟨k1, n1, t1⟩ := x
                obtain ⟨k2, n2, t2⟩ := y
                simp only at hk hn e
                subst hk hn
                rw [ByteArray.toList_eq, ByteArray.toList_eq] at e
                obtain ⟨⟨t1⟩⟩ := t1
                obtain ⟨⟨t2⟩⟩ := t2
                simp only at e
                rw [e]
              rw [hk] at d0
              rw [hn] at d1
              go_wp2
              go_quiet (fail)
              go_wp2
              go_ret
              exact ⟨by rw [HN.out]; rfl, below_drewN (below_then hB (below_one _ _)) _⟩
            · have ht : (x.n == y.n) = false := beq_eq_false_iff_ne.2 hn
              rw [hk] at d0
              go_wp2
              go_quiet (fail)
              go_wp2
              go_ret
              exact ⟨by rw [HN.out]; rfl, below_drewN (below_then hB (below_one _ _)) _⟩
          · have ht : (x.kind == y.kind) = false := beq_eq_false_iff_ne.2 hk
            go_wp2
            go_quiet (fail)
            go_wp2
            go_ret
            exact ⟨by rw [HN.out]; rfl, below_drewN (below_then hB (below_one _ _)) _⟩
      · have hall : decide (xs = ys) = true := by
          rw [decide_eq_true_eq]
          exact List.ext_getElem HL.out (fun j h1 h2 => hsame.out j h1 h2 (by omega))
        have HN := Lib.hid hall
        clear hall
        go_wp2
        go_ret
        exact ⟨by rw [HN.out]; rfl, hB⟩
  · have hne : decide (xs = ys) = false := by
      rw [decide_eq_false_iff_not]; intro e; exact hl (by rw [e])
    have hb : ((xs.length : Int) != (ys.length : Int)) = true := by rw [bne_iff_ne]; omega
    have HN := Lib.hid hne
    clear hne hx hy
    go_enter Tryd.func91, Tryd.ntmps91
    go_wp2
    go_ret
    exact ⟨by rw [HN.out]; rfl, Below.refl _ _⟩
end Go.Proofs.YthgnihckeckaiaaDoor.Tm
