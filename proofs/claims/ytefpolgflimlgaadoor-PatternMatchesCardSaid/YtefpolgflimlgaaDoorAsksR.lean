/- The document's Asks: asksD. -/
import Derived.Test.YtefpolgflimlgaaDoorNotP
import Derived.Test.YtefpolgflimlgaaDoorGdB
namespace Go.Proofs.YtefpolgflimlgaaDoor.Tm
open Go.RowKit
set_option linter.unusedVariables false
set_option linter.unusedSimpArgs false

theorem int_info : (Tryd.prog.info? 3).map (fun i => (i.zero, i.size, i.bytes)) = some (some (.int .i64 0), 1, 8) := by kernel_rfl
/-- A slice of the call's own that holds numbers. -/
def IntsAt (w : World) (base : Nat) (v : Value) (l : List Int) : Prop := w.ownsRow base 3 1 v l.length (l.map (Value.int .i64))
theorem IntsAt.below {w W : World} {base : Nat} {v : Value} {l : List Int} (h : IntsAt w base v l) (hB : Below w.heap.size w W) : IntsAt W base v l := row_below h hB
theorem IntsAt.cells {w : World} {base n c : Nat} {A : Option Addr} {l : List Int} (h : IntsAt w base (.slice A n c) l) {j : Nat} (hj : j < l.length) : ∃ g, A = some ⟨g, 0, none⟩ ∧ w.cell? ⟨g, j, none⟩ = some (.int .i64 l[j]) := by
  obtain ⟨A', c', e⟩ := row_slice h
  obtain ⟨rfl, rfl, rfl⟩ : A = A' ∧ n = l.length ∧ c = c' := by simpa using e
  obtain ⟨g, rfl, _, _⟩ := row_form h (by omega)
  exact ⟨g, rfl, row_cell1 h (by simp [hj])⟩
theorem IntsAt.len {w : World} {base n c : Nat} {A : Option Addr} {l : List Int} (h : IntsAt w base (.slice A n c) l) : n = l.length := by
  obtain ⟨A', c', e⟩ := row_slice h
  exact (by simpa using e : A = A' ∧ n = l.length ∧ c = c').2.1
def asks1 (t : TestD) (n : Int) : Bool := (decide (t.a.kind = 1) && decide (t.a.n = n)) || (decide (t.b.kind = 1) && decide (t.b.n = n))
def asksTo (g : List TestD) (k : Nat) : List Int := ((List.range k).filter fun n => asksB g ((n : Nat) : Int)).map fun n => ((n : Nat) : Int)
theorem asksTo_yes {g : List TestD} {k : Nat} (h : asksB g (k : Int) = true) : asksTo g (k + 1) = asksTo g k ++ [(k : Int)] := by simp [asksTo, List.range_succ, List.filter_append, h]
theorem asksTo_no {g : List TestD} {k : Nat} (h : asksB g (k : Int) = false) : asksTo g (k + 1) = asksTo g k := by simp [asksTo, List.range_succ, List.filter_append, h]
theorem asksTo_le (g : List TestD) (k : Nat) : (asksTo g k).length ≤ k := by
  unfold asksTo
  rw [List.length_map]
  exact Nat.le_trans (List.length_filter_le _ _) (by simp)
theorem asksB_snoc {g : List TestD} {j : Nat} (h : j < g.length) (n : Int) : asksB (g.take (j + 1)) n = (asksB (g.take j) n || asks1 g[j] n) := by
  exact any_snoc h
theorem Src.int1 {w : World} {b : Nat} {v : Value} (h : w.cell? ⟨b, 0, none⟩ = some v) (h1 : v.oneCell' = true) : Src w 1 (some ⟨b, 0, none⟩) 1 [v] := Src.slice1 h h1
set_option maxRecDepth 100000 in
set_option maxHeartbeats 4000000 in
theorem rasks_any (g : List TestD) (A : Option Addr) (c : Nat) (w : World) (hr : TReads w A g) (hl : g.length ≤ 1000000000000000) :
    Calls Tryd.prog 68 #[.slice A g.length c] w fun e w' => ∃ A' c', e = .returned (.slice A' (asksD g).length c') ∧ IntsAt w' w.heap.size (.slice A' (asksD g).length c') (asksD g) ∧ Below w.heap.size w w' := by
  obtain ⟨i0, hi, hz0, hz1, hz2⟩ := info_parts int_info
  have HR := Lib.hid hr
  clear hr
  go_enter Tryd.func68, Tryd.ntmps68
  go_wp2_with fail
  go_loopw [3, 4] (fun v n wr => ∃ (k : Nat) (A' : Option Addr) (c' : Nat), k ≤ 16 ∧ n = .int .i64 k ∧ v = .slice A' (asksTo g k).length c' ∧ Hid (IntsAt wr w.heap.size (.slice A' (asksTo g k).length c') (asksTo g k)) ∧ Below w.heap.size w wr) (fun v n wr => 16 - (intOf n).toNat)
  case atStart => exact ⟨0, none, 0, Nat.zero_le _, rfl, rfl, row_nil _ _ _ _, Below.refl _ _⟩
  case round =>
    obtain ⟨k, A', c', hk, rfl, rfl, hrow, hB⟩ := hrel
    have hkl := asksTo_le g k
    by_cases hk16 : k < 16
    · generalize hT : asksTo g k = T at *
      have HT := Lib.hid hT
      clear hT
      obtain ⟨wo, hwo⟩ : ∃ wo : World, wo = wr := ⟨_, rfl⟩
      subst hwo
      go_wp2_with fail
      go_loopw [5, 6] (fun m i w2 => ∃ j : Nat, j ≤ g.length ∧ i = .int .i64 j ∧ m = .bool (asksB (g.take j) k) ∧ Below wo.heap.size wo w2) (fun m i w2 => g.length - (intOf i).toNat)
      case atStart => exact ⟨0, Nat.zero_le _, rfl, rfl, Below.refl _ _⟩
      case round =>
        obtain ⟨j, hj, rfl, rfl, hB2⟩ := hrel
        by_cases hlt : j < g.length
        · obtain ⟨b, o, hA, ht⟩ := HR.out j hlt
          subst hA
          obtain ⟨q0, q1, q2, q3, q4, q5, q6⟩ := ht.below (below_then hB hB2)
          have S := Lib.hid (asksB_snoc hlt (k : Int))
          have hi1 : (j : Int) < (g.length : Int) := by omega
          have hi0 : (0 : Int) ≤ (j : Int) := Int.natCast_nonneg _
          generalize g[j] = t at *
          clear ht q0 q3 q6
          cases hb : asksB (g.take j) k
          · rw [hb] at S
            by_cases a1 : t.a.kind = 1
            · by_cases a2 : t.a.n = (k : Int)
              · have F := Lib.hid (show asksB (g.take (j + 1)) k = true by rw [S.out]; simp [asks1, *])
                have ea1 : (t.a.kind == 1) = true := by simp [*]
                have ea2 : (t.a.n == (k : Int)) = true := by simp [*]
                clear a1 a2
                clear S hb
                go_wp2
                go_roundw
                case rel => exact ⟨j + 1, by omega, by go_num, by rw [F.out], hB2⟩
                case measure => simp [intOf]; omega
              · by_cases b1 : t.b.kind = 1
                · by_cases b2 : t.b.n = (k : Int)
                  · have F := Lib.hid (show asksB (g.take (j + 1)) k = true by rw [S.out]; simp [asks1, *])
                    have ea1 : (t.a.kind == 1) = true := by simp [*]
                    have ea2 : (t.a.n == (k : Int)) = false := beq_eq_false_iff_ne.2 a2
                    have eb1 : (t.b.kind == 1) = true := by simp [*]
                    have eb2 : (t.b.n == (k : Int)) = true := by simp [*]
                    clear a1 a2 b1 b2
                    clear S hb
                    go_wp2
                    go_roundw
                    case rel => exact ⟨j + 1, by omega, by go_num, by rw [F.out], hB2⟩
                    case measure => simp [intOf]; omega
                  · have F := Lib.hid (show asksB (g.take (j + 1)) k = false by rw [S.out]; simp [asks1, *])
                    have ea1 : (t.a.kind == 1) = true := by simp [*]
                    have ea2 : (t.a.n == (k : Int)) = false := beq_eq_false_iff_ne.2 a2
                    have eb1 : (t.b.kind == 1) = true := by simp [*]
                    have eb2 : (t.b.n == (k : Int)) = false := beq_eq_false_iff_ne.2 b2
                    clear a1 a2 b1 b2
                    clear S hb
                    go_wp2
                    go_roundw
                    case rel => exact ⟨j + 1, by omega, by go_num, by rw [F.out], hB2⟩
                    case measure => simp [intOf]; omega
                · have F := Lib.hid (show asksB (g.take (j + 1)) k = false by rw [S.out]; simp [asks1, *])
                  have ea1 : (t.a.kind == 1) = true := by simp [*]
                  have ea2 : (t.a.n == (k : Int)) = false := beq_eq_false_iff_ne.2 a2
                  have eb1 : (t.b.kind == 1) = false := beq_eq_false_iff_ne.2 b1
                  clear a1 a2 b1
                  clear S hb
                  go_wp2
                  go_roundw
                  case rel => exact ⟨j + 1, by omega, by go_num, by rw [F.out], hB2⟩
                  case measure => simp [intOf]; omega
            · by_cases b1 : t.b.kind = 1
              · by_cases b2 : t.b.n = (k : Int)
                · have F := Lib.hid (show asksB (g.take (j + 1)) k = true by rw [S.out]; simp [asks1, *])
                  have ea1 : (t.a.kind == 1) = false := beq_eq_false_iff_ne.2 a1
                  have eb1 : (t.b.kind == 1) = true := by simp [*]
                  have eb2 : (t.b.n == (k : Int)) = true := by simp [*]
                  clear a1 b1 b2
                  clear S hb
                  go_wp2
                  go_roundw
                  case rel => exact ⟨j + 1, by omega, by go_num, by rw [F.out], hB2⟩
                  case measure => simp [intOf]; omega
                · have F := Lib.hid (show asksB (g.take (j + 1)) k = false by rw [S.out]; simp [asks1, *])
                  have ea1 : (t.a.kind == 1) = false := beq_eq_false_iff_ne.2 a1
                  have eb1 : (t.b.kind == 1) = true := by simp [*]
                  have eb2 : (t.b.n == (k : Int)) = false := beq_eq_false_iff_ne.2 b2
                  clear a1 b1 b2
                  clear S hb
                  go_wp2
                  go_roundw
                  case rel => exact ⟨j + 1, by omega, by go_num, by rw [F.out], hB2⟩
                  case measure => simp [intOf]; omega
              · have F := Lib.hid (show asksB (g.take (j + 1)) k = false by rw [S.out]; simp [asks1, *])
                have ea1 : (t.a.kind == 1) = false := beq_eq_false_iff_ne.2 a1
                have eb1 : (t.b.kind == 1) = false := beq_eq_false_iff_ne.2 b1
                clear a1 b1
                clear S hb
                go_wp2
                go_roundw
                case rel => exact ⟨j + 1, by omega, by go_num, by rw [F.out], hB2⟩
                case measure => simp [intOf]; omega
          · have F := Lib.hid (show asksB (g.take (j + 1)) k = true by rw [S.out, hb]; rfl)
            clear S hb
            go_wp2
            go_roundw
            case rel => exact ⟨j + 1, by omega, by go_num, by rw [F.out], hB2⟩
            case measure => simp [intOf]; omega
        · have hall : g.take j = g := List.take_of_length_le (by omega)
          rw [hall]
          have HA := Lib.hid hall
          have hBW := below_then hB hB2
          have hrow2 := Lib.hid (hrow.out.below hB2)
          clear hall
          cases hb : asksB g k
          · have F := Lib.hid (asksTo_no hb)
            clear hb
            go_wp2
            go_roundw
            case rel => exact ⟨k + 1, A', c', by omega, by go_num, by rw [F.out, HT.out], by rw [F.out, HT.out]; exact hrow2, hBW⟩
            case measure => simp [intOf]; omega
          · have F := Lib.hid (asksTo_yes hb)
            clear hb
            have hc0 : (wr.alloc (.cells #[.int .i64 k] 3)).cell? ⟨wr.heap.size, 0, none⟩ = some (.int .i64 k) := by go_cell
            have HC := Lib.hid hc0
            clear hc0
            go_wp2_with (at_builtin; refine wpList_app _ rfl (.tmp 57) (.tmp 59) _ rfl w.heap.size _ i0 _ 1 8 Tryd.underlying74 hi hz0 hz1 hz2 rfl ?a1 (.slice A' T.length c') T.length (T.map (Value.int .i64)) rfl ?a2 (some ⟨wr.heap.size, 0, none⟩) 1 1 [.int .i64 k] rfl ?a3 ?a4 ?a5 ?a6 ?a7)
            case a1 => omega
            case a2 => exact hrow2.out.alloc _
            case a3 => exact Src.slice1 HC.out rfl
            case a4 => simp only [maxLen]; omega
            case a5 => omega
            case a6 => rw [World.size_alloc]; have := hBW.size; omega
            case a7 =>
              intro v3 w3 hown3 hg3 hat3
              obtain ⟨A3, c3, rfl⟩ := row_slice hown3
              have hB3 : Below w.heap.size w w3 := (below_alloc' hBW _).grown hg3 (below_alloc' hBW _).size (fun q hq => row_base hrow2.out q hq)
              have HO := Lib.hid (show IntsAt w3 w.heap.size (.slice A3 (T.length + 1) c3) (T ++ [(k : Int)]) by simpa [IntsAt] using hown3)
              clear hown3 hg3 hat3
              go_wp2
              go_roundw
              case rel => exact ⟨k + 1, A3, c3, by omega, by go_num, by rw [F.out, HT.out]; simp, by rw [F.out, HT.out]; simpa using HO, hB3⟩
              case measure => simp [intOf]; omega
    · obtain rfl : k = 16 := by omega
      go_wp2
      go_ret
      exact ⟨A', c', rfl, hrow.out, hB⟩
end Go.Proofs.YtefpolgflimlgaaDoor.Tm
