/- Layer 8's small functions, of both texts. -/
import Derived.Test.YtefpolgflimlgaaDoorPatX
import Derived.Test.YtefpolgflimlgaaDoorCellW
import Derived.Test.YtefpolgflimlgaaDoorCellR
import Derived.Test.YtefpolgflimlgaaDoorMid
import Derived.Test.YtefpolgflimlgaaDoorGdB
namespace Go.Proofs.YtefpolgflimlgaaDoor.Tm
open Go.RowKit
set_option linter.unusedVariables false
set_option linter.unusedSimpArgs false

theorem hole_any (k : Int) (w : World) : Calls Tryd.prog 124 #[.int .i64 k] w fun e w' => e = .returned (.bool (holeB k)) ∧ w = w' := by
  by_cases h11 : k = 11
  · subst h11
    go_enter Tryd.func124, Tryd.ntmps124
    go_wp2
    go_ret
    exact ⟨rfl, rfl⟩
  have c11 : (k == 11) = false := beq_eq_false_iff_ne.2 h11
  by_cases h12 : k = 12
  · subst h12
    go_enter Tryd.func124, Tryd.ntmps124
    go_wp2
    go_ret
    exact ⟨rfl, rfl⟩
  have c12 : (k == 12) = false := beq_eq_false_iff_ne.2 h12
  have F := Lib.hid (show holeB k = (k == 13) by simp [holeB, h11, h12, Bool.beq_eq_decide_eq])
  clear h11 h12
  go_enter Tryd.func124, Tryd.ntmps124
  go_wp2
  go_ret
  exact ⟨by rw [F.out]; rfl, rfl⟩
theorem free_any (k : Int) (w : World) : Calls Tryd.prog 140 #[.int .i64 k] w fun e w' => e = .returned (.bool (holeB k)) ∧ w = w' := by
  by_cases h11 : k = 11
  · subst h11
    go_enter Tryd.func140, Tryd.ntmps140
    go_wp2
    go_ret
    exact ⟨rfl, rfl⟩
  have c11 : (k == 11) = false := beq_eq_false_iff_ne.2 h11
  by_cases h12 : k = 12
  · subst h12
    go_enter Tryd.func140, Tryd.ntmps140
    go_wp2
    go_ret
    exact ⟨rfl, rfl⟩
  have c12 : (k == 12) = false := beq_eq_false_iff_ne.2 h12
  have F := Lib.hid (show holeB k = (k == 13) by simp [holeB, h11, h12, Bool.beq_eq_decide_eq])
  clear h11 h12
  go_enter Tryd.func140, Tryd.ntmps140
  go_wp2
  go_ret
  exact ⟨by rw [F.out]; rfl, rfl⟩
theorem pparts_any (c : CellD) (w : World) : Calls Tryd.prog 133 #[.agg #[.int .i64 c.kind, .int .i64 c.n, .string c.text]] w fun e w' => e = .returned (.int .i64 (kidsD c)) ∧ Below w.heap.size w w' := by
  by_cases h7 : c.kind = 7
  · have H := Lib.hid (show kidsD c = 2 by simp [kidsD, h7])
    go_enter Tryd.func133, Tryd.ntmps133
    go_wp2
    go_ret
    exact ⟨by rw [H.out]; rfl, below_one _ _⟩
  · by_cases h5 : c.kind = 5
    · by_cases h0 : 0 ≤ c.n
      · by_cases h1 : c.n ≤ 255
        · have H := Lib.hid (show (kidsD c : Int) = c.n by unfold kidsD; rw [if_neg h7, if_pos ⟨h5, h0, h1⟩]; omega)
          go_enter Tryd.func133, Tryd.ntmps133
          go_wp2
          go_ret
          exact ⟨by rw [H.out]; rfl, below_one _ _⟩
        · have H := Lib.hid (show kidsD c = 0 by simp [kidsD, h5, h1])
          go_enter Tryd.func133, Tryd.ntmps133
          go_wp2
          go_ret
          exact ⟨by rw [H.out]; rfl, below_one _ _⟩
      · have H := Lib.hid (show kidsD c = 0 by simp [kidsD, h5, h0])
        go_enter Tryd.func133, Tryd.ntmps133
        go_wp2
        go_ret
        exact ⟨by rw [H.out]; rfl, below_one _ _⟩
    · have H := Lib.hid (show kidsD c = 0 by simp [kidsD, h5, h7])
      go_enter Tryd.func133, Tryd.ntmps133
      go_wp2
      go_ret
      exact ⟨by rw [H.out]; rfl, below_one _ _⟩
theorem pkids_any (c : CellD) (w : World) : Calls Tryd.prog 136 #[.agg #[.int .i64 c.kind, .int .i64 c.n, .string c.text]] w fun e w' => e = .returned (.int .i64 (kidsD c)) ∧ Below w.heap.size w w' := by
  by_cases h7 : c.kind = 7
  · have H := Lib.hid (show kidsD c = 2 by simp [kidsD, h7])
    go_enter Tryd.func136, Tryd.ntmps136
    go_wp2
    go_ret
    exact ⟨by rw [H.out]; rfl, below_one _ _⟩
  · by_cases h5 : c.kind = 5
    · by_cases h0 : 0 ≤ c.n
      · by_cases h1 : c.n ≤ 255
        · have H := Lib.hid (show (kidsD c : Int) = c.n by unfold kidsD; rw [if_neg h7, if_pos ⟨h5, h0, h1⟩]; omega)
          go_enter Tryd.func136, Tryd.ntmps136
          go_wp2
          go_ret
          exact ⟨by rw [H.out]; rfl, below_one _ _⟩
        · have H := Lib.hid (show kidsD c = 0 by simp [kidsD, h5, h1])
          go_enter Tryd.func136, Tryd.ntmps136
          go_wp2
          go_ret
          exact ⟨by rw [H.out]; rfl, below_one _ _⟩
      · have H := Lib.hid (show kidsD c = 0 by simp [kidsD, h5, h0])
        go_enter Tryd.func136, Tryd.ntmps136
        go_wp2
        go_ret
        exact ⟨by rw [H.out]; rfl, below_one _ _⟩
    · have H := Lib.hid (show kidsD c = 0 by simp [kidsD, h5, h7])
      go_enter Tryd.func136, Tryd.ntmps136
      go_wp2
      go_ret
      exact ⟨by rw [H.out]; rfl, below_one _ _⟩
set_option maxHeartbeats 1000000 in
theorem pcell_any (c : CellD) (w : World) (hs : c.text.size ≤ 9223372036854775807) (hT : Tabs w) : Calls Tryd.prog 132 #[aggC c] w fun e w' => e = .returned (.int .i64 (patE c)) ∧ Below w.heap.size w w' := by
  have hB := below_one w (.cells #[.int .i64 c.kind, .int .i64 c.n, .string c.text] 95)
  have HT := Lib.hid (Utf8Tabs_below hT hB)
  clear hT
  cases hh : holeB c.kind
  · have F := Lib.hid (show patE c = cellE c by rw [patE, if_neg (by simp [hh])])
    go_enter Tryd.func132, Tryd.ntmps132
    go_wp2_with fail
    refine (hole_any c.kind _).mono ?_
    rintro e w1 ⟨rfl, rfl⟩
    rw [hh]
    clear hh
    go_wp2_with fail
    refine (wcell_any c _ hs HT.out).mono ?_
    rintro e w2 ⟨rfl, hb⟩
    go_wp2
    go_ret
    exact ⟨by rw [F.out]; rfl, below_then hB hb⟩
  · by_cases ht : c.text.size = 0
    · have hx := text_nil ht
      by_cases h11 : c.kind = 11
      · have b11 : (c.kind == 11) = true := by simp [h11]
        by_cases hn : c.n = 0
        · have hm : (c.n == 0) = true := by simp [hn]
          have F := Lib.hid (show patE c = 0 by rw [patE, if_pos hh]; simp [ht, hn])
          have n0 : ¬ c.n < 0 := by omega
          have n1 : ¬ 16 ≤ c.n := by omega
          clear ht h11 hn
          go_enter Tryd.func132, Tryd.ntmps132
          go_wp2_with fail
          refine (hole_any c.kind _).mono ?_
          rintro e w1 ⟨rfl, rfl⟩
          rw [hh]
          clear hh
          go_wp2
          go_ret
          exact ⟨by rw [F.out]; rfl, hB⟩
        · have hm : (c.n == 0) = false := beq_eq_false_iff_ne.2 hn
          have F := Lib.hid (show patE c = 3 by rw [patE, if_pos hh]; simp [h11, hn])
          clear ht h11
          go_enter Tryd.func132, Tryd.ntmps132
          go_wp2_with fail
          refine (hole_any c.kind _).mono ?_
          rintro e w1 ⟨rfl, rfl⟩
          rw [hh]
          clear hh
          go_wp2
          go_ret
          exact ⟨by rw [F.out]; rfl, hB⟩
      · have b11 : (c.kind == 11) = false := beq_eq_false_iff_ne.2 h11
        by_cases n0 : c.n < 0
        · have F := Lib.hid (show patE c = 1 by rw [patE, if_pos hh]; simp [ht, h11, n0])
          clear ht h11
          go_enter Tryd.func132, Tryd.ntmps132
          go_wp2_with fail
          refine (hole_any c.kind _).mono ?_
          rintro e w1 ⟨rfl, rfl⟩
          rw [hh]
          clear hh
          go_wp2
          go_ret
          exact ⟨by rw [F.out]; rfl, hB⟩
        · by_cases n1 : 16 ≤ c.n
          · have F := Lib.hid (show patE c = 1 by rw [patE, if_pos hh]; simp [ht, h11, n1])
            clear ht h11
            go_enter Tryd.func132, Tryd.ntmps132
            go_wp2_with fail
            refine (hole_any c.kind _).mono ?_
            rintro e w1 ⟨rfl, rfl⟩
            rw [hh]
            clear hh
            go_wp2
            go_ret
            exact ⟨by rw [F.out]; rfl, hB⟩
          · have F := Lib.hid (show patE c = 0 by rw [patE, if_pos hh]; simp [ht, h11, n0, n1]; try omega)
            clear ht h11
            go_enter Tryd.func132, Tryd.ntmps132
            go_wp2_with fail
            refine (hole_any c.kind _).mono ?_
            rintro e w1 ⟨rfl, rfl⟩
            rw [hh]
            clear hh
            go_wp2
            go_ret
            exact ⟨by rw [F.out]; rfl, hB⟩
    · have hx := text_some ht
      have F := Lib.hid (show patE c = 3 by rw [patE, if_pos hh]; simp [ht])
      clear ht
      go_enter Tryd.func132, Tryd.ntmps132
      go_wp2_with fail
      refine (hole_any c.kind _).mono ?_
      rintro e w1 ⟨rfl, rfl⟩
      rw [hh]
      clear hh
      go_wp2
      go_ret
      exact ⟨by rw [F.out]; rfl, hB⟩
set_option maxHeartbeats 1000000 in
theorem prcell_any (c : CellD) (w : World) (hs : c.text.size ≤ 9223372036854775807) : Calls Tryd.prog 134 #[aggC c] w fun e w' => e = .returned (.int .i64 (patE c)) ∧ Below w.heap.size w w' := by
  have hB := below_one w (.cells #[.int .i64 c.kind, .int .i64 c.n, .string c.text] 95)
  cases hh : holeB c.kind
  · have F := Lib.hid (show patE c = cellE c by rw [patE, if_neg (by simp [hh])])
    go_enter Tryd.func134, Tryd.ntmps134
    go_wp2_with fail
    refine (free_any c.kind _).mono ?_
    rintro e w1 ⟨rfl, rfl⟩
    rw [hh]
    clear hh
    go_wp2_with fail
    refine (rcell_any c _ hs).mono ?_
    rintro e w2 ⟨rfl, hb⟩
    go_wp2
    go_ret
    exact ⟨by rw [F.out]; rfl, below_then hB hb⟩
  · by_cases ht : c.text.size = 0
    · have hx := text_nil ht
      by_cases h11 : c.kind = 11
      · have b11 : (c.kind == 11) = true := by simp [h11]
        by_cases hn : c.n = 0
        · have hm : (c.n == 0) = true := by simp [hn]
          have F := Lib.hid (show patE c = 0 by rw [patE, if_pos hh]; simp [ht, hn])
          have n0 : ¬ c.n < 0 := by omega
          have n1 : ¬ 16 ≤ c.n := by omega
          clear ht h11 hn
          go_enter Tryd.func134, Tryd.ntmps134
          go_wp2_with fail
          refine (free_any c.kind _).mono ?_
          rintro e w1 ⟨rfl, rfl⟩
          rw [hh]
          clear hh
          go_wp2
          go_ret
          exact ⟨by rw [F.out]; rfl, hB⟩
        · have hm : (c.n == 0) = false := beq_eq_false_iff_ne.2 hn
          have F := Lib.hid (show patE c = 3 by rw [patE, if_pos hh]; simp [h11, hn])
          clear ht h11
          go_enter Tryd.func134, Tryd.ntmps134
          go_wp2_with fail
          refine (free_any c.kind _).mono ?_
          rintro e w1 ⟨rfl, rfl⟩
          rw [hh]
          clear hh
          go_wp2
          go_ret
          exact ⟨by rw [F.out]; rfl, hB⟩
      · have b11 : (c.kind == 11) = false := beq_eq_false_iff_ne.2 h11
        by_cases n0 : c.n < 0
        · have F := Lib.hid (show patE c = 1 by rw [patE, if_pos hh]; simp [ht, h11, n0])
          clear ht h11
          go_enter Tryd.func134, Tryd.ntmps134
          go_wp2_with fail
          refine (free_any c.kind _).mono ?_
          rintro e w1 ⟨rfl, rfl⟩
          rw [hh]
          clear hh
          go_wp2
          go_ret
          exact ⟨by rw [F.out]; rfl, hB⟩
        · by_cases n1 : 16 ≤ c.n
          · have F := Lib.hid (show patE c = 1 by rw [patE, if_pos hh]; simp [ht, h11, n1])
            clear ht h11
            go_enter Tryd.func134, Tryd.ntmps134
            go_wp2_with fail
            refine (free_any c.kind _).mono ?_
            rintro e w1 ⟨rfl, rfl⟩
            rw [hh]
            clear hh
            go_wp2
            go_ret
            exact ⟨by rw [F.out]; rfl, hB⟩
          · have F := Lib.hid (show patE c = 0 by rw [patE, if_pos hh]; simp [ht, h11, n0, n1]; try omega)
            clear ht h11
            go_enter Tryd.func134, Tryd.ntmps134
            go_wp2_with fail
            refine (free_any c.kind _).mono ?_
            rintro e w1 ⟨rfl, rfl⟩
            rw [hh]
            clear hh
            go_wp2
            go_ret
            exact ⟨by rw [F.out]; rfl, hB⟩
    · have hx := text_some ht
      have F := Lib.hid (show patE c = 3 by rw [patE, if_pos hh]; simp [ht])
      clear ht
      go_enter Tryd.func134, Tryd.ntmps134
      go_wp2_with fail
      refine (free_any c.kind _).mono ?_
      rintro e w1 ⟨rfl, rfl⟩
      rw [hh]
      clear hh
      go_wp2
      go_ret
      exact ⟨by rw [F.out]; rfl, hB⟩
set_option maxHeartbeats 1000000 in
theorem register_any (x : List (List CellD)) (n : Int) (A : Option Addr) (c : Nat) (w : World) (hx : Reads2 w A x) (hl : x.length ≤ 1000000000000000) : Calls Tryd.prog 120 #[.slice A x.length c, .int .i64 n] w (IsSl w (regD x n)) := by
  have HX := Lib.hid hx
  clear hx
  by_cases h0 : 0 ≤ n
  · obtain ⟨m, rfl⟩ : ∃ m : Nat, n = m := ⟨n.toNat, by omega⟩
    clear h0
    by_cases hlt : m < x.length
    · obtain ⟨b, o, rfl, Am, cm, q0, q1, q2⟩ := HX.out m hlt
      have F2 := Lib.hid (regD_in hlt)
      have Q2 := Lib.hid q2
      have hi1 : (m : Int) < (x.length : Int) := by omega
      have hi0 : (0 : Int) ≤ (m : Int) := Int.natCast_nonneg _
      clear q2
      go_enter Tryd.func120, Tryd.ntmps120
      go_wp2
      go_ret
      exact IsSl.eq ⟨Am, cm, rfl, q1, Q2.out, Below.refl _ _⟩ F2.out
    · have F2 := Lib.hid (regD_out (x := x) (n := (m : Int)) (by omega))
      have hge : (x.length : Int) ≤ (m : Int) := by omega
      go_enter Tryd.func120, Tryd.ntmps120
      go_wp2
      go_ret
      exact (IsSl.nil_ (Below.refl _ _)).eq F2.out
  · have F2 := Lib.hid (show regD x n = [] by rw [regD, if_pos (by omega)])
    go_enter Tryd.func120, Tryd.ntmps120
    go_wp2
    go_ret
    exact (IsSl.nil_ (Below.refl _ _)).eq F2.out
set_option maxHeartbeats 1000000 in
theorem reg_any (x : List (List CellD)) (n : Int) (A : Option Addr) (c : Nat) (w : World) (hx : Reads2 w A x) (hl : x.length ≤ 1000000000000000) : Calls Tryd.prog 65 #[.slice A x.length c, .int .i64 n] w (IsSl w (regD x n)) := by
  have HX := Lib.hid hx
  clear hx
  by_cases h0 : 0 ≤ n
  · obtain ⟨m, rfl⟩ : ∃ m : Nat, n = m := ⟨n.toNat, by omega⟩
    clear h0
    by_cases hlt : m < x.length
    · obtain ⟨b, o, rfl, Am, cm, q0, q1, q2⟩ := HX.out m hlt
      have F2 := Lib.hid (regD_in hlt)
      have Q2 := Lib.hid q2
      have hi1 : (m : Int) < (x.length : Int) := by omega
      have hi0 : (0 : Int) ≤ (m : Int) := Int.natCast_nonneg _
      clear q2
      go_enter Tryd.func65, Tryd.ntmps65
      go_wp2
      go_ret
      exact IsSl.eq ⟨Am, cm, rfl, q1, Q2.out, Below.refl _ _⟩ F2.out
    · have F2 := Lib.hid (regD_out (x := x) (n := (m : Int)) (by omega))
      have hge : (x.length : Int) ≤ (m : Int) := by omega
      go_enter Tryd.func65, Tryd.ntmps65
      go_wp2
      go_ret
      exact (IsSl.nil_ (Below.refl _ _)).eq F2.out
  · have F2 := Lib.hid (show regD x n = [] by rw [regD, if_pos (by omega)])
    go_enter Tryd.func65, Tryd.ntmps65
    go_wp2
    go_ret
    exact (IsSl.nil_ (Below.refl _ _)).eq F2.out
end Go.Proofs.YtefpolgflimlgaaDoor.Tm
