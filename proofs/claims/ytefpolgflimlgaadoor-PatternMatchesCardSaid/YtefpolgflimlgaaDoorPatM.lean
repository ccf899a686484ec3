/- Layer 8: own, behind, what is wrong of registers, the registers that are named; both texts. -/
import Derived.Test.YtefpolgflimlgaaDoorPatA
import Derived.Test.YtefpolgflimlgaaDoorEnd
import Derived.Test.YtefpolgflimlgaaDoorPatX
import Derived.Test.YtefpolgflimlgaaDoorAsksR
import Derived.Laws.Rows
namespace Go.Proofs.YtefpolgflimlgaaDoor.Tm
open Go.RowKit
set_option linter.unusedVariables false
set_option linter.unusedSimpArgs false

/-- A call answers a term in memory of its own. -/
def OwnSl (w : World) (l : List CellD) (e : Ending) (w' : World) : Prop := ∃ A c, e = .returned (.slice A l.length c) ∧ w'.ownsRow w.heap.size 32 3 (.slice A l.length c) l.length (encs l) ∧ Below w.heap.size w w'
set_option maxHeartbeats 1000000 in
theorem own_any (n : Nat) (l : List CellD) (hn : l.length = n) (A : Option Addr) (cap : Nat) (w : World) (hr : Reads w A l) (hl : l.length * 32 ≤ 140737488355328) :
    Calls Tryd.prog 121 #[.slice A n cap] w (OwnSl w l) := by
  subst hn
  obtain ⟨i0, hi, hz0, hz1, hz2⟩ := info_parts cell_info
  have hS := Lib.hid (Src.of_reads hr)
  clear hr
  go_enter Tryd.func121, Tryd.ntmps121
  go_wp2_with (at_builtin; refine wpList_app _ rfl (.const (.slice none 0 0)) (.tmp 3) _ rfl w.heap.size _ i0 _ 3 32 Tryd.underlying22 hi hz0 hz1 hz2 rfl (Nat.zero_lt_succ 2) (.slice none 0 0) 0 [] rfl (row_nil _ _ _ _) A l.length cap (encs l) rfl hS.out ?a1 ?a2 (Nat.le_refl _) ?a3)
  case a1 => simp only [maxLen]; omega
  case a2 => omega
  case a3 =>
    intro v1 w1 hown1 hg1 hat1
    have hB1 : Below w.heap.size w w1 := (Below.refl _ _).grown hg1 (Nat.le_refl _) (by simp [Value.ownBlock])
    obtain ⟨A1, c1, rfl⟩ := row_slice hown1
    have HO := Lib.hid hown1
    clear hown1 hg1 hat1
    go_wp2
    go_ret
    exact ⟨A1, c1, rfl, HO.out, hB1⟩
theorem pbehind_any (l : List CellD) (A : Option Addr) (cap j m : Nat) (w : World) (hr : Reads w A l) (hl : l.length ≤ 1000000000000000) (hj : j ≤ 1000000000000000) (he : endE l j = ((m : Int), 0)) :
    Calls Tryd.prog 125 #[.slice A l.length cap, .int .i64 j] w fun e w' => e = .returned (.int .i64 m) ∧ Below w.heap.size w w' := by
  have HE := Lib.hid he
  have HR := Lib.hid hr
  clear he hr
  go_enter Tryd.func125, Tryd.ntmps125
  go_wp2_with fail
  refine (wend_any l A cap j _ HR.out hl (by omega)).mono ?_
  rintro e w1 ⟨rfl, hb⟩
  rw [HE.out]
  go_wp2
  go_ret
  exact ⟨rfl, hb⟩
theorem wr8_big {x : List (List CellD)} (h : 16 < x.length) : wrong8 x = 1 := by rw [wrong8, if_pos h]
theorem wr8_ok {x : List (List CellD)} (h : ¬ 16 < x.length) : wrong8 x = regsE x := by rw [wrong8, if_neg h]
set_option maxRecDepth 100000 in
set_option maxHeartbeats 2000000 in
theorem pwrong_any (x : List (List CellD)) (A : Option Addr) (c : Nat) (w : World) (hx : Reads2 w A x) (hfx : Fine2 x) (hl : x.length ≤ 1000000000000000) (hT : Tabs w) :
    Calls Tryd.prog 119 #[.slice A x.length c] w fun e w' => e = .returned (.int .i64 (wrong8 x)) ∧ Below w.heap.size w w' := by
  have HX := Lib.hid hx
  have HFX := Lib.hid hfx
  have HT := Lib.hid hT
  clear hx hfx hT
  by_cases h16 : 16 < x.length
  · have F := Lib.hid (wr8_big h16)
    go_enter Tryd.func119, Tryd.ntmps119
    go_wp2
    go_ret
    exact ⟨by rw [F.out]; rfl, Below.refl _ _⟩
  have hb16 : decide (16 < (x.length : Int)) = false := decide_eq_false (by omega)
  have HW := Lib.hid (wr8_ok h16)
  clear h16
  go_enter Tryd.func119, Tryd.ntmps119
  go_wp2_with fail
  go_loopw [12] (fun i wr => ∃ (j : Nat), j ≤ x.length ∧ i = .int .i64 j ∧ Below w.heap.size w wr ∧ Hid (regsE x = regsE (x.drop j))) (fun i wr => x.length - (intOf i).toNat)
  case atStart => exact ⟨0, Nat.zero_le _, rfl, Below.refl _ _, rfl⟩
  case round =>
    obtain ⟨j, hj, rfl, hB, hH⟩ := hrel
    by_cases hlt : j < x.length
    · obtain ⟨b, o, hA, Aj, cj, q0, q1, q2⟩ := HX.out j hlt
      subst hA
      have q0' := cell_below hB q0
      have hfj := Lib.hid (HFX.out j hlt)
      have hi1 : (j : Int) < (x.length : Int) := by omega
      have hi0 : (0 : Int) ≤ (j : Int) := Int.natCast_nonneg _
      have HBd := Lib.hid (regs_bad hlt)
      have HNx := Lib.hid (regs_next hlt)
      clear q0
      go_wp2_with fail
      refine (wright_any x[j] Aj cj _ (q2.below hB) hfj.out.text hfj.out.lim (Utf8Tabs_below HT.out hB)).mono ?_
      rintro e w2 ⟨rfl, hb⟩
      have hB2 := below_then hB hb
      clear q0' hb
      have hln := hfj.out.lim
      by_cases hnn : 0 < x[j].length
      · have hnb : (0 : Int) < (x[j].length : Int) := by omega
        by_cases hee : (rightE x[j]).1 = 0
        · have F := Lib.hid (hH.out.trans (HNx.out (fun e => e.2 hee)))
          have hte : ((rightE x[j]).1 != 0) = false := by rw [bne_eq_false_iff_eq]; exact hee
          clear HBd HNx hH hee
          generalize (rightE x[j]).1 = E at *
          generalize x[j].length = n at *
          go_wp2
          go_roundw
          case rel => exact ⟨j + 1, by omega, by go_num, hB2, F⟩
          case measure => simp [intOf]; omega
        · have F := Lib.hid (hH.out.trans (HBd.out hnn hee))
          have hte : ((rightE x[j]).1 != 0) = true := by rw [bne_iff_ne]; exact hee
          clear HBd HNx hH hee
          generalize (rightE x[j]).1 = E at *
          generalize x[j].length = n at *
          go_wp2
          go_ret
          exact ⟨by rw [HW.out, F.out]; rfl, hB2⟩
      · have F := Lib.hid (hH.out.trans (HNx.out (fun e => hnn e.1)))
        have hnb : ¬ (0 : Int) < (x[j].length : Int) := by omega
        clear HBd HNx hH hnn
        generalize (rightE x[j]).1 = E at *
        generalize x[j].length = n at *
        go_wp2
        go_roundw
        case rel => exact ⟨j + 1, by omega, by go_num, hB2, F⟩
        case measure => simp [intOf]; omega
    · have F := Lib.hid (hH.out.trans (regs_done (by omega)))
      clear hH
      go_wp2
      go_ret
      exact ⟨by rw [HW.out, F.out]; rfl, hB⟩
set_option maxRecDepth 100000 in
set_option maxHeartbeats 2000000 in
theorem rwrong8_any (x : List (List CellD)) (A : Option Addr) (c : Nat) (w : World) (hx : Reads2 w A x) (hfx : Fine2 x) (hl : x.length ≤ 1000000000000000) :
    Calls Tryd.prog 62 #[.slice A x.length c] w fun e w' => e = .returned (.int .i64 (wrong8 x)) ∧ Below w.heap.size w w' := by
  have HX := Lib.hid hx
  have HFX := Lib.hid hfx
  clear hx hfx
  by_cases h16 : 16 < x.length
  · have F := Lib.hid (wr8_big h16)
    go_enter Tryd.func62, Tryd.ntmps62
    go_wp2
    go_ret
    exact ⟨by rw [F.out]; rfl, Below.refl _ _⟩
  have hb16 : decide (16 < (x.length : Int)) = false := decide_eq_false (by omega)
  have HW := Lib.hid (wr8_ok h16)
  clear h16
  go_enter Tryd.func62, Tryd.ntmps62
  go_wp2_with fail
  go_loopw [12] (fun i wr => ∃ (j : Nat), j ≤ x.length ∧ i = .int .i64 j ∧ Below w.heap.size w wr ∧ Hid (regsE x = regsE (x.drop j))) (fun i wr => x.length - (intOf i).toNat)
  case atStart => exact ⟨0, Nat.zero_le _, rfl, Below.refl _ _, rfl⟩
  case round =>
    obtain ⟨j, hj, rfl, hB, hH⟩ := hrel
    by_cases hlt : j < x.length
    · obtain ⟨b, o, hA, Aj, cj, q0, q1, q2⟩ := HX.out j hlt
      subst hA
      have q0' := cell_below hB q0
      have hfj := Lib.hid (HFX.out j hlt)
      have hi1 : (j : Int) < (x.length : Int) := by omega
      have hi0 : (0 : Int) ≤ (j : Int) := Int.natCast_nonneg _
      have HBd := Lib.hid (regs_bad hlt)
      have HNx := Lib.hid (regs_next hlt)
      have hln := hfj.out.lim
      clear q0
      by_cases hnn : x[j].length = 0
      · have F := Lib.hid (hH.out.trans (HNx.out (fun e => by omega)))
        rw [hnn] at q0'
        clear HBd HNx hH hnn hln
        go_wp2
        go_roundw
        case rel => exact ⟨j + 1, by omega, by go_num, hB, F⟩
        case measure => simp [intOf]; omega
      · have hnb : ((x[j].length : Int) == 0) = false := beq_eq_false_iff_ne.2 (by omega)
        have hpos : 0 < x[j].length := by omega
        clear hnn
        go_wp2_with fail
        refine (rright_any x[j] Aj cj _ (q2.below hB) hfj.out.text hfj.out.lim).mono ?_
        rintro e w2 ⟨rfl, hb⟩
        have hB2 := below_then hB hb
        clear q0' hb
        by_cases hee : (rightE x[j]).1 = 0
        · have F := Lib.hid (hH.out.trans (HNx.out (fun e => e.2 hee)))
          have hte : ((rightE x[j]).1 != 0) = false := by rw [bne_eq_false_iff_eq]; exact hee
          clear HBd HNx hH hee
          generalize (rightE x[j]).1 = E at *
          generalize x[j].length = n at *
          go_wp2
          go_roundw
          case rel => exact ⟨j + 1, by omega, by go_num, hB2, F⟩
          case measure => simp [intOf]; omega
        · have F := Lib.hid (hH.out.trans (HBd.out hpos hee))
          have hte : ((rightE x[j]).1 != 0) = true := by rw [bne_iff_ne]; exact hee
          clear HBd HNx hH hee
          generalize (rightE x[j]).1 = E at *
          generalize x[j].length = n at *
          go_wp2
          go_ret
          exact ⟨by rw [HW.out, F.out]; rfl, hB2⟩
    · have F := Lib.hid (hH.out.trans (regs_done (by omega)))
      clear hH
      go_wp2
      go_ret
      exact ⟨by rw [HW.out, F.out]; rfl, hB⟩
end Go.Proofs.YtefpolgflimlgaaDoor.Tm
