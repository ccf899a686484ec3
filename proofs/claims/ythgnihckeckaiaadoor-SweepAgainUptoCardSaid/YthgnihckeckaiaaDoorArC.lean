/- The arena's readers: Used, Room, cost, find, size. -/
import Derived.Test.YthgnihckeckaiaaDoorArM
import Derived.BigQuiet
import Derived.WalkSpells
namespace Go.Proofs.YthgnihckeckaiaaDoor.Tm
open Go.RowKit
set_option linter.unusedVariables false
set_option linter.unusedSimpArgs false

/-- The tables. -/
structure TabsA (w : World) : Prop where
  utf : Lib.Utf8Tabs 1 2 w
  plain : ∀ k : Nat, k < 9 → w.cell? ⟨0, k, none⟩ = some (.int .i64 (plainK k : Int))
theorem TabsA.below {a b : World} (h : TabsA a) (hB : Below a.heap.size a b) : TabsA b := ⟨Utf8Tabs_below h.utf hB, fun k hk => cell_below hB (h.plain k hk)⟩
theorem below_drewA {B : Nat} {a w : World} (h : Below B a w) (n : Nat) : Below B a (w.drewN n) := ⟨h.os, h.tape, h.output, h.size, h.block⟩
theorem used_any (w : World) (O : Nat → Prop) (ba room : Nat) (l : List ObjA) (h : ArAt w O ba room l) :
    Calls Tryd.prog 20 #[.pointer (some ⟨ba, 0, none⟩)] w fun e w' => e = .returned (.int .i64 (usedA l : Int)) ∧ Below w.heap.size w w' := by
  obtain ⟨bm, vO, vW, vs, hR⟩ := h
  obtain ⟨c0, c1, c2, c3, c4⟩ := hR.cells
  clear hR
  go_enter Tryd.func20, Tryd.ntmps20
  go_wp2
  go_ret
  exact ⟨rfl, Below.refl _ _⟩
theorem room_any (w : World) (O : Nat → Prop) (ba room : Nat) (l : List ObjA) (h : ArAt w O ba room l) :
    Calls Tryd.prog 27 #[.pointer (some ⟨ba, 0, none⟩)] w fun e w' => e = .returned (.int .i64 ((room : Int) - (usedA l : Int))) ∧ Below w.heap.size w w' := by
  have hl := h.lims
  obtain ⟨bm, vO, vW, vs, hR⟩ := h
  obtain ⟨c0, c1, c2, c3, c4⟩ := hR.cells
  clear hR
  have hw : wrap64 ((room : Int) - (usedA l : Int)) = (room : Int) - (usedA l : Int) := w64_id _ (by omega) (by omega)
  go_enter Tryd.func27, Tryd.ntmps27
  go_wp2_with fail
  go_quiet (fail)
  go_wp2
  go_ret
  exact ⟨rfl, below_drewA (Below.refl _ _) _⟩
theorem idx_free {w : World} {O : Nat → Prop} {ba room : Nat} {l : List ObjA} (h : ArAt w O ba room l) : idxOf 0 l (usedA l : Int) = none := by
  have := (idxOf_new 0 l ⟨⟨0, 0, ⟨#[]⟩⟩, [], 0⟩ h.wf.cost).2
  simpa using this
/-- What kind of answer find gives. -/
def IsFind (f : Option Int) (e : Ending) : Prop := match f with
  | some k => e = .returned (.tuple #[.int .i64 k, .bool true])
  | none => ∃ k, e = .returned (.tuple #[.int .i64 k, .bool false])
theorem find_any (w : World) (O : Nat → Prop) (ba room : Nat) (l : List ObjA) (x : Int) (h0 : 0 ≤ x) (h1 : x < 18446744073709551616) (h : ArAt w O ba room l) :
    Calls Tryd.prog 122 #[.pointer (some ⟨ba, 0, none⟩), .int .u64 x] w fun e w' => IsFind (findA l x) e ∧ Below w.heap.size w w' := by
  by_cases k1 : kdW x = 1
  · have H := Lib.hid (show findA l x = some (-1) by unfold findA; rw [if_pos (.inl k1)])
    clear h
    go_enter Tryd.func122, Tryd.ntmps122
    go_wp2_with fail
    refine (wkind_any x _ h0 h1).mono ?_
    rintro e w' ⟨rfl, rfl⟩
    rw [k1]
    clear k1
    go_wp2
    go_ret2
    rw [H.out]
    exact ⟨rfl, Below.refl _ _⟩
  by_cases k2 : kdW x = 2
  · have H := Lib.hid (show findA l x = some (-1) by unfold findA; rw [if_pos (.inr k2)])
    clear h
    go_enter Tryd.func122, Tryd.ntmps122
    go_wp2_with fail
    refine (wkind_any x _ h0 h1).mono ?_
    rintro e w' ⟨rfl, rfl⟩
    rw [k2]
    clear k1 k2
    go_wp2
    go_ret2
    rw [H.out]
    exact ⟨rfl, Below.refl _ _⟩
  by_cases k3 : kdW x = 3 ∨ kdW x = 4
  · have H := Lib.hid (show findA l x = (match idxOf 0 l (x / 16) with
      | some k => if (wordsA 0 l)[k]? = some x then some (k : Int) else none
      | none => none) by unfold findA; rw [if_neg (by omega), if_pos k3]; rfl)
    obtain ⟨bm, vO, vW, vs, hR⟩ := h
    obtain ⟨c0, c1, c2, c3, c4⟩ := hR.cells
    have hlk := run_look w bm l (x / 16) hR.map
    cases ej : idxOf 0 l (x / 16) with
    | none =>
      rw [ej] at hlk H
      simp only [Option.getD_none, Option.isSome_none] at hlk
      have hlk' : (Instr.lookup 97 (.map (some bm)) (.int .i64 (x / 16)) true).run Tryd.prog w = .ok (.tuple #[.int .i64 0, .bool false]) w := hlk
      clear hR hlk ej
      rcases k3 with k3 | k3
      all_goals
        go_enter Tryd.func122, Tryd.ntmps122
        go_wp2_with fail
        refine (wkind_any x _ h0 h1).mono ?_
        rintro e w' ⟨rfl, rfl⟩
        rw [k3]
        go_wp2_with fail
        refine (wat_any x _ h0 h1 (by rw [k3]; simp)).mono ?_
        rintro e w' ⟨rfl, rfl⟩
        go_wp2_with fail
        go_quiet (fail)
        go_wp2
        go_ret2
        rw [H.out]
        exact ⟨⟨_, rfl⟩, below_drewA (Below.refl _ _) _⟩
    | some k =>
      have hk := idxOf_lt _ _ _ _ ej
      rw [ej] at hlk H
      simp only [Option.getD_some, Option.isSome_some] at hlk
      obtain ⟨g, cap, y, rfl, ey, cy⟩ := hR.word k hk
      have hlk' : (Instr.lookup 97 (.map (some bm)) (.int .i64 (x / 16)) true).run Tryd.prog w = .ok (.tuple #[.int .i64 (k : Int), .bool true]) w := hlk
      rw [show (match (some k : Option Nat) with
        | some k => if (wordsA 0 l)[k]? = some x then some (k : Int) else none
        | none => none) = if (wordsA 0 l)[k]? = some x then some (k : Int) else none from rfl, ey] at H
      have hlen := hR.wf.len
      have hlim := hR.used_le
      have hlim2 := hR.room_le
      clear hR hlk ej ey
      by_cases hy : y = x
      · rw [if_pos (by rw [hy])] at H
        have hb : (y == x) = true := by rw [hy]; simp
        clear hy
        rcases k3 with k3 | k3
        all_goals
          go_enter Tryd.func122, Tryd.ntmps122
          go_wp2_with fail
          refine (wkind_any x _ h0 h1).mono ?_
          rintro e w' ⟨rfl, rfl⟩
          rw [k3]
          go_wp2_with fail
          refine (wat_any x _ h0 h1 (by rw [k3]; simp)).mono ?_
          rintro e w' ⟨rfl, rfl⟩
          go_wp2_with fail
          go_quiet (fail)
          go_wp2
          go_ret2
          rw [H.out]
          exact ⟨rfl, below_drewA (Below.refl _ _) _⟩
      · rw [if_neg (by simpa using hy)] at H
        have hb : (y == x) = false := beq_eq_false_iff_ne.2 hy
        clear hy
        rcases k3 with k3 | k3
        all_goals
          go_enter Tryd.func122, Tryd.ntmps122
          go_wp2_with fail
          refine (wkind_any x _ h0 h1).mono ?_
          rintro e w' ⟨rfl, rfl⟩
          rw [k3]
          go_wp2_with fail
          refine (wat_any x _ h0 h1 (by rw [k3]; simp)).mono ?_
          rintro e w' ⟨rfl, rfl⟩
          go_wp2_with fail
          go_quiet (fail)
          go_wp2
          go_ret2
          rw [H.out]
          exact ⟨⟨_, rfl⟩, below_drewA (Below.refl _ _) _⟩
  · have H := Lib.hid (show findA l x = none by unfold findA; rw [if_neg (by omega), if_neg k3])
    have e1 : (kdW x == 1) = false := beq_eq_false_iff_ne.2 k1
    have e2 : (kdW x == 2) = false := beq_eq_false_iff_ne.2 k2
    have e3 : (kdW x == 3) = false := beq_eq_false_iff_ne.2 (fun e => k3 (.inl e))
    have e4 : (kdW x == 4) = false := beq_eq_false_iff_ne.2 (fun e => k3 (.inr e))
    clear h k1 k2 k3
    go_enter Tryd.func122, Tryd.ntmps122
    go_wp2_with fail
    refine (wkind_any x _ h0 h1).mono ?_
    rintro e w' ⟨rfl, rfl⟩
    go_wp2
    go_ret2
    rw [H.out]
    exact ⟨⟨_, rfl⟩, Below.refl _ _⟩
theorem asize_any (w : World) (O : Nat → Prop) (ba room : Nat) (l : List ObjA) (x k : Int) (h0 : 0 ≤ x) (h1 : x < 18446744073709551616) (h : ArAt w O ba room l) (hf : findA l x = some k) :
    Calls Tryd.prog 74 #[.pointer (some ⟨ba, 0, none⟩), .int .u64 x] w fun e w' => e = .returned (.int .i64 (sizeA l x : Int)) ∧ Below w.heap.size w w' := by
  have hfind := find_any w O ba room l x h0 h1 h
  rw [hf] at hfind
  have hk := findA_lt hf
  by_cases hn : k < 0
  · have H := Lib.hid (show sizeA l x = 1 by unfold sizeA; rw [hf]; simp only [if_pos hn])
    obtain rfl : k = -1 := by omega
    clear h hf hn
    go_enter Tryd.func74, Tryd.ntmps74
    go_wp2_with fail
    refine hfind.mono ?_
    rintro e w' ⟨he, hb⟩
    obtain rfl : e = _ := he
    go_wp2
    go_ret
    exact ⟨by rw [H.out]; rfl, hb⟩
  · obtain ⟨j, rfl⟩ : ∃ j : Nat, k = (j : Int) := ⟨k.toNat, by omega⟩
    have hj : j < l.length := by omega
    have H := Lib.hid (show sizeA l x = (l[j]).size by unfold sizeA; rw [hf]; simp only [if_neg hn]; simp [hj])
    obtain ⟨bm, vO, vW, vs, hR⟩ := h
    obtain ⟨g, cap, rfl, d0, d1, d2, d3, d4⟩ := hR.objs j hj
    have hlen := hR.wf.len
    have hlim := hR.used_le
    have hlim2 := hR.room_le
    clear hf hk d0 d1 d2 d3
    go_enter Tryd.func74, Tryd.ntmps74
    go_wp2_with fail
    refine hfind.mono ?_
    rintro e w' ⟨he, hb⟩
    obtain rfl : e = _ := he
    obtain ⟨c0, c1, c2, c3, c4⟩ := hR.cells
    have c3' := cell_below hb c3
    have d4' := cell_below hb d4
    clear c0 c1 c2 c3 c4 d4 hR
    go_wp2
    go_ret
    exact ⟨by rw [H.out]; rfl, hb⟩
/-- What bounds a cell's numbers. -/
structure WfC (c : CellD) : Prop where
  n0 : -9223372036854775808 ≤ c.n
  n1 : c.n < 9223372036854775808
  text : c.text.size ≤ 9223372036854775807
def CellD.agg (c : CellD) : Value := .agg #[.int .i64 c.kind, .int .i64 c.n, .string c.text]
theorem cost_any (c : CellD) (w : World) (hT : TabsA w) (hc : WfC c) (he : cellE c = 0) :
    Calls Tryd.prog 58 #[.agg #[.int .i64 c.kind, .int .i64 c.n, .string c.text]] w fun e w' => e = .returned (.int .i64 (costC c : Int)) ∧ Below w.heap.size w w' := by
  have hk := cellE_kind he
  have ht := cellE_text he
  obtain ⟨n0, n1, n2⟩ := hc
  obtain ⟨K, hK⟩ : ∃ K : Nat, c.kind = (K : Int) := ⟨c.kind.toNat, by omega⟩
  have hp := cell_below (below_one w (.cells #[.int .i64 (K : Int), .int .i64 c.n, .string c.text] 40)) (hT.plain K (by omega))
  by_cases hs : c.kind = 1 ∧ smallI c.n
  · have H := Lib.hid (show costC c = 0 by unfold costC; rw [if_pos hs])
    obtain ⟨h1, hs⟩ := hs
    have hof := fun w => wofint_any c.n w n0 n1
    simp only [if_pos hs] at hof
    rw [h1]
    clear he hk ht hp hK hT
    go_enter Tryd.func58, Tryd.ntmps58
    go_wp2_with fail
    refine (hof _).mono ?_
    rintro e w' ⟨rfl, rfl⟩
    go_wp2
    go_ret
    exact ⟨by rw [H.out]; rfl, below_one _ _⟩
  · have hof := fun w => wofint_any c.n w n0 n1
    have hpl : plainK c.kind ≤ 2 := by unfold plainK; split <;> (try split) <;> omega
    have H := Lib.hid (show (costC c : Int) = (plainK c.kind : Int) + (if c.kind = 5 then c.n else 0) + ((c.text.size : Int) + 7) / 8 by
      unfold costC
      rw [if_neg hs]
      split
      · rename_i h5
        have := cellE_tuple he h5
        omega
      · omega)
    rw [hK] at hs H hpl
    have hK9 : K < 9 := by omega
    by_cases h1 : (K : Int) = 1
    · have hsn : ¬ smallI c.n := fun e => hs ⟨h1, e⟩
      simp only [if_neg hsn] at hof
      have e1 : ((K : Int) == 1) = true := by rw [h1]; rfl
      have e5 : ((K : Int) == 5) = false := by rw [h1]; rfl
      rw [hK]
      rw [if_neg (by omega)] at H
      clear he hk hK hT hs hsn h1
      go_enter Tryd.func58, Tryd.ntmps58
      go_wp2_with fail
      refine (hof _).mono ?_
      rintro e w' ⟨rfl, rfl⟩
      go_wp2
      go_ret
      exact ⟨by rw [H.out, Int.add_zero]; rfl, below_one _ _⟩
    · have e1 : ((K : Int) == 1) = false := beq_eq_false_iff_ne.2 h1
      by_cases h5 : (K : Int) = 5
      · have e5 : ((K : Int) == 5) = true := by rw [h5]; rfl
        have hn := cellE_tuple he (hK.trans h5)
        rw [hK]
        rw [if_pos h5] at H
        clear he hk hK hT hs h1 h5
        go_enter Tryd.func58, Tryd.ntmps58
        go_wp2_with fail
        refine (hof _).mono ?_
        rintro e w' ⟨rfl, rfl⟩
        go_wp2
        all_goals
          go_ret
          exact ⟨by rw [H.out]; rfl, below_one _ _⟩
      · have e5 : ((K : Int) == 5) = false := beq_eq_false_iff_ne.2 h5
        rw [if_neg h5] at H
        rw [hK]
        clear he hk hK hT hs h1 h5
        go_enter Tryd.func58, Tryd.ntmps58
        go_wp2_with fail
        refine (hof _).mono ?_
        rintro e w' ⟨rfl, rfl⟩
        go_wp2
        all_goals
          go_ret
          exact ⟨by rw [H.out, Int.add_zero]; rfl, below_one _ _⟩
end Go.Proofs.YthgnihckeckaiaaDoor.Tm
