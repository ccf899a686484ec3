/- Layer 8: the registers that cells of a kind name, of both texts; Binds, Asks. -/
import Derived.Test.YtefpolgflimlgaaDoorPatM
import Derived.Test.YtefpolgflimlgaaDoorPatRR
import Derived.Test.YtefpolgflimlgaaDoorBools
import Derived.KernelRfl
namespace Go.Proofs.YtefpolgflimlgaaDoor.Tm
open Go.RowKit
set_option linter.unusedVariables false
set_option linter.unusedSimpArgs false

theorem named_fun {p : List CellD} {k : Int} {j : Nat} (h : j < p.length) : (fun n => namedB (p.take j) k n || regK k p[j] n) = namedB (p.take (j + 1)) k := by
  funext n
  exact (any_snoc h).symm
def namedTo (p : List CellD) (k : Int) (m : Nat) : List Int := ((List.range m).filter fun n => namedB p k ((n : Nat) : Int)).map fun n => ((n : Nat) : Int)
theorem namedTo_yes {p : List CellD} {k : Int} {m : Nat} (h : namedB p k (m : Int) = true) : namedTo p k (m + 1) = namedTo p k m ++ [(m : Int)] := by simp [namedTo, List.range_succ, List.filter_append, h]
theorem namedTo_no {p : List CellD} {k : Int} {m : Nat} (h : namedB p k (m : Int) = false) : namedTo p k (m + 1) = namedTo p k m := by simp [namedTo, List.range_succ, List.filter_append, h]
theorem namedTo_le (p : List CellD) (k : Int) (m : Nat) : (namedTo p k m).length ≤ m := by
  unfold namedTo
  rw [List.length_map]
  exact Nat.le_trans (List.length_filter_le _ _) (by simp)
/-- A call answers numbers in memory of its own. -/
def OwnInts (w : World) (l : List Int) (e : Ending) (w' : World) : Prop := ∃ A c, e = .returned (.slice A l.length c) ∧ IntsAt w' w.heap.size (.slice A l.length c) l ∧ Below w.heap.size w w'
set_option maxRecDepth 100000 in
set_option maxHeartbeats 4000000 in
theorem pnamed_any (p : List CellD) (k : Int) (A : Option Addr) (c : Nat) (w : World) (hr : Reads w A p) (hl : p.length ≤ 1000000000000000) :
    Calls Tryd.prog 127 #[.slice A p.length c, .int .i64 k] w (OwnInts w (namedD p k)) := by
  obtain ⟨i0, hi, hz0, hz1, hz2⟩ := info_parts int_info
  have HR := Lib.hid hr
  clear hr
  go_enter Tryd.func127, Tryd.ntmps127
  go_wp2_with fail
  go_loopw [13] (fun i wr => ∃ j : Nat, j ≤ p.length ∧ i = .int .i64 j ∧ Below w.heap.size w wr ∧ Hid (BoolsAt wr w.heap.size (namedB (p.take j) k))) (fun i wr => p.length - (intOf i).toNat)
  case atStart => exact ⟨0, Nat.zero_le _, rfl, below_one _ _, bools_new w (namedB [] k)⟩
  case round =>
    obtain ⟨j, hj, rfl, hB, hH⟩ := hrel
    by_cases hlt : j < p.length
    · obtain ⟨b, o, hA, ht⟩ := HR.out j hlt
      subst hA
      obtain ⟨q0, q1, q2⟩ := ht.below hB
      have hi1 : (j : Int) < (p.length : Int) := by omega
      have hi0 : (0 : Int) ≤ (j : Int) := Int.natCast_nonneg _
      have SS := Lib.hid (named_fun (k := k) hlt)
      generalize p[j] = x at *
      clear ht
      have HA := Lib.hid (hH.out.below (below_one wr (.cells #[.int .i64 x.kind, .int .i64 x.n, .string x.text] 95)))
      have hBa := below_alloc' hB (.cells #[.int .i64 x.kind, .int .i64 x.n, .string x.text] 95)
      have HBa := Lib.hid hBa
      clear hBa
      by_cases hk : x.kind = k
      · have e1 : (x.kind == k) = true := by simp [hk]
        by_cases h0 : 0 ≤ x.n
        · by_cases h16 : x.n < 16
          · obtain ⟨m, hm⟩ : ∃ m : Nat, x.n = m := ⟨x.n.toNat, by omega⟩
            have hm16 : m < 16 := by omega
            have hcm := HA.out.cell hm16
            have hfm := HA.out.free m
            have F := Lib.hid ((HA.out.set_ hm16 hk hm).congr SS.out)
            have FB := Lib.hid (HBa.out.setCell (p := ⟨w.heap.size, m, none⟩) (Nat.le_refl _) (.bool true))
            rw [hm] at q1 h0 h16 hcm hfm F FB
            clear SS hm hk HA HBa
            go_wp2
            go_roundw
            case rel => exact ⟨j + 1, by omega, by go_num, FB.out, F⟩
            case measure => simp [intOf]; omega
          · have F := Lib.hid ((HA.out.same (k := k) (x := x) (fun e => h16 e.2.2)).congr SS.out)
            clear SS hk HA
            go_wp2
            go_roundw
            case rel => exact ⟨j + 1, by omega, by go_num, HBa.out, F⟩
            case measure => simp [intOf]; omega
        · have F := Lib.hid ((HA.out.same (k := k) (x := x) (fun e => h0 e.2.1)).congr SS.out)
          clear SS hk HA
          go_wp2
          go_roundw
          case rel => exact ⟨j + 1, by omega, by go_num, HBa.out, F⟩
          case measure => simp [intOf]; omega
      · have e1 : (x.kind == k) = false := beq_eq_false_iff_ne.2 hk
        have F := Lib.hid ((HA.out.same (k := k) (x := x) (fun e => hk e.1)).congr SS.out)
        clear SS hk HA
        go_wp2
        go_roundw
        case rel => exact ⟨j + 1, by omega, by go_num, HBa.out, F⟩
        case measure => simp [intOf]; omega
    · have hH2 := hH.out
      rw [List.take_of_length_le (by omega)] at hH2
      have HH := Lib.hid hH2
      clear hH hH2
      go_wp2_with (refine wpList_load_row rfl 148 (.tmp 5) rfl w.heap.size rfl 148 (boolsF (namedB p k)) (0, 0) _ HH.out Tryd.underlying148 rfl (by kernel_rfl) ?_)
      have hlw2 := hB.size
      go_loopw [8, 36] (fun v i wr => ∃ (m : Nat) (A' : Option Addr) (c' : Nat), m ≤ 16 ∧ i = .int .i64 m ∧ v = .slice A' (namedTo p k m).length c' ∧ Hid (IntsAt wr w.heap.size (.slice A' (namedTo p k m).length c') (namedTo p k m)) ∧ Below w.heap.size w wr) (fun v i wr => 16 - (intOf i).toNat)
      case atStart => exact ⟨0, none, 0, Nat.zero_le _, rfl, rfl, row_nil _ _ _ _, hB⟩
      case round =>
        obtain ⟨m, A', c', hm, rfl, rfl, hrow, hBr⟩ := hrel
        have hle := namedTo_le p k m
        clear hB hlw2
        by_cases hm16 : m < 16
        · have hix := run_index_bools (namedB p k) m hm16
          generalize hT : namedTo p k m = T at *
          have HT := Lib.hid hT
          clear hT HH
          cases hb : namedB p k (m : Int)
          · have F := Lib.hid (namedTo_no hb)
            rw [hb] at hix
            clear hb
            go_wp2
            go_roundw
            case rel => exact ⟨m + 1, A', c', by omega, by go_num, by rw [F.out, HT.out], by rw [F.out, HT.out]; exact hrow, hBr⟩
            case measure => simp [intOf]; omega
          · have F := Lib.hid (namedTo_yes hb)
            rw [hb] at hix
            clear hb
            have hc0 : (wr.alloc (.cells #[.int .i64 m] 3)).cell? ⟨wr.heap.size, 0, none⟩ = some (.int .i64 m) := by go_cell
            have HC := Lib.hid hc0
            clear hc0
            go_wp2_with (at_builtin; refine wpList_app _ rfl (.tmp 41) (.tmp 43) _ rfl w.heap.size _ i0 _ 1 8 Tryd.underlying74 hi hz0 hz1 hz2 rfl ?a1 (.slice A' T.length c') T.length (T.map (Value.int .i64)) rfl ?a2 (some ⟨wr.heap.size, 0, none⟩) 1 1 [.int .i64 m] rfl ?a3 ?a4 ?a5 ?a6 ?a7)
            case a1 => omega
            case a2 => exact hrow.out.alloc _
            case a3 => exact Src.slice1 HC.out rfl
            case a4 => simp only [maxLen]; omega
            case a5 => omega
            case a6 => rw [World.size_alloc]; have := hBr.size; omega
            case a7 =>
              intro v3 w3 hown3 hg3 hat3
              obtain ⟨A3, c3, rfl⟩ := row_slice hown3
              have hB3 : Below w.heap.size w w3 := (below_alloc' hBr _).grown hg3 (below_alloc' hBr _).size (fun q hq => row_base hrow.out q hq)
              have HO := Lib.hid (show IntsAt w3 w.heap.size (.slice A3 (T.length + 1) c3) (T ++ [(m : Int)]) by simpa [IntsAt] using hown3)
              clear hown3 hg3 hat3
              go_wp2
              go_roundw
              case rel => exact ⟨m + 1, A3, c3, by omega, by go_num, by rw [F.out, HT.out]; simp, by rw [F.out, HT.out]; simpa using HO, hB3⟩
              case measure => simp [intOf]; omega
        · obtain rfl : m = 16 := by omega
          go_wp2
          go_ret
          exact ⟨A', c', rfl, hrow.out, hBr⟩
set_option maxHeartbeats 1000000 in
theorem pbinds_any (p : List CellD) (A : Option Addr) (c : Nat) (w : World) (hr : Reads w A p) (hl : p.length ≤ 1000000000000000) :
    Calls Tryd.prog 66 #[.slice A p.length c] w (OwnInts w (namedD p 12)) := by
  have HN := Lib.hid (pnamed_any p 12 A c w hr hl)
  clear hr
  go_enter Tryd.func66, Tryd.ntmps66
  go_wp2_with fail
  refine HN.out.mono ?_
  rintro e w1 ⟨A1, c1, rfl, hI, hB⟩
  have HI := Lib.hid hI
  clear hI
  go_wp2
  go_ret
  exact ⟨A1, c1, rfl, HI.out, hB⟩
set_option maxHeartbeats 1000000 in
theorem pasks_any (p : List CellD) (A : Option Addr) (c : Nat) (w : World) (hr : Reads w A p) (hl : p.length ≤ 1000000000000000) :
    Calls Tryd.prog 64 #[.slice A p.length c] w (OwnInts w (namedD p 13)) := by
  have HN := Lib.hid (pnamed_any p 13 A c w hr hl)
  clear hr
  go_enter Tryd.func64, Tryd.ntmps64
  go_wp2_with fail
  refine HN.out.mono ?_
  rintro e w1 ⟨A1, c1, rfl, hI, hB⟩
  have HI := Lib.hid hI
  clear hI
  go_wp2
  go_ret
  exact ⟨A1, c1, rfl, HI.out, hB⟩
theorem named_yes {p : List CellD} {k n : Int} {j : Nat} (h : j < p.length) (e : p[j].kind = k) (f : p[j].n = n) : namedB p k n = true := any_at h (by simp [e, f])
set_option maxRecDepth 100000 in
set_option maxHeartbeats 4000000 in
theorem rnamed_any (p : List CellD) (k : Int) (A : Option Addr) (c : Nat) (w : World) (hr : Reads w A p) (hl : p.length ≤ 1000000000000000) :
    Calls Tryd.prog 76 #[.slice A p.length c, .int .i64 k] w (OwnInts w (namedD p k)) := by
  obtain ⟨i0, hi, hz0, hz1, hz2⟩ := info_parts int_info
  have HR := Lib.hid hr
  clear hr
  go_enter Tryd.func76, Tryd.ntmps76
  go_wp2_with fail
  go_loopw [5, 6] (fun v i wr => ∃ (m : Nat) (A' : Option Addr) (c' : Nat), m ≤ 16 ∧ i = .int .i64 m ∧ v = .slice A' (namedTo p k m).length c' ∧ Hid (IntsAt wr w.heap.size (.slice A' (namedTo p k m).length c') (namedTo p k m)) ∧ Below w.heap.size w wr) (fun v i wr => 16 - (intOf i).toNat)
  case atStart => exact ⟨0, none, 0, Nat.zero_le _, rfl, rfl, row_nil _ _ _ _, Below.refl _ _⟩
  case round =>
    obtain ⟨m, A', c', hm, rfl, rfl, hrow, hB⟩ := hrel
    have hle := namedTo_le p k m
    by_cases hm16 : m < 16
    · generalize hT : namedTo p k m = T at *
      have HT := Lib.hid hT
      clear hT
      obtain ⟨wo, hwo⟩ : ∃ wo : World, wo = wr := ⟨_, rfl⟩
      subst hwo
      go_wp2_with fail
      go_loopw [5, 15] (fun v i w2 => ∃ j : Nat, j ≤ p.length ∧ i = .int .i64 j ∧ v = .slice A' T.length c' ∧ Below wo.heap.size wo w2 ∧ Hid (namedB (p.take j) k (m : Int) = false)) (fun v i w2 => p.length - (intOf i).toNat)
      case atStart => exact ⟨0, Nat.zero_le _, rfl, rfl, Below.refl _ _, rfl⟩
      case round =>
        obtain ⟨j, hj, rfl, rfl, hB2, hH⟩ := hrel
        have hBw := below_then hB hB2
        have hrow2 := Lib.hid (hrow.out.below hB2)
        by_cases hlt : j < p.length
        · obtain ⟨b, o, hA, ht⟩ := HR.out j hlt
          subst hA
          obtain ⟨q0, q1, q2⟩ := ht.below hBw
          have hi1 : (j : Int) < (p.length : Int) := by omega
          have hi0 : (0 : Int) ≤ (j : Int) := Int.natCast_nonneg _
          have S := Lib.hid (show namedB (p.take (j + 1)) k (m : Int) = (namedB (p.take j) k (m : Int) || regK k p[j] (m : Int)) from any_snoc hlt)
          have Y := Lib.hid (named_yes (k := k) (n := (m : Int)) hlt)
          generalize p[j] = x at *
          have hrow3 := Lib.hid (hrow2.out.below (below_one wr (.cells #[.int .i64 x.kind, .int .i64 x.n, .string x.text] 95)))
          have HB3 := Lib.hid (below_alloc' hBw (.cells #[.int .i64 x.kind, .int .i64 x.n, .string x.text] 95))
          have HB2 := Lib.hid (below_alloc' hB2 (.cells #[.int .i64 x.kind, .int .i64 x.n, .string x.text] 95))
          clear ht hrow2 hB2 hBw
          by_cases hk : x.kind = k
          · have e1 : (x.kind == k) = true := by simp [hk]
            by_cases hn : x.n = m
            · have e2 : (x.n == (m : Int)) = true := by simp [hn]
              have F := Lib.hid (namedTo_yes (Y.out hk hn))
              have hc0 : ((wr.alloc (.cells #[.int .i64 x.kind, .int .i64 x.n, .string x.text] 95)).alloc (.cells #[.int .i64 m] 3)).cell? ⟨wr.heap.size + 1, 0, none⟩ = some (.int .i64 m) := by go_cell
              have HC := Lib.hid hc0
              clear hc0 hn hk S Y hH
              go_wp2_with (at_builtin; refine wpList_app _ rfl (.tmp 29) (.tmp 31) _ rfl w.heap.size _ i0 _ 1 8 Tryd.underlying74 hi hz0 hz1 hz2 rfl ?a1 (.slice A' T.length c') T.length (T.map (Value.int .i64)) rfl ?a2 (some ⟨wr.heap.size + 1, 0, none⟩) 1 1 [.int .i64 m] rfl ?a3 ?a4 ?a5 ?a6 ?a7)
              case a1 => omega
              case a2 => exact hrow3.out.alloc _
              case a3 => exact Src.slice1 HC.out rfl
              case a4 => simp only [maxLen]; omega
              case a5 => omega
              case a6 => rw [World.size_alloc]; have := HB3.out.size; omega
              case a7 =>
                intro v3 w3 hown3 hg3 hat3
                obtain ⟨A3, c3, rfl⟩ := row_slice hown3
                have hB3 : Below w.heap.size w w3 := (below_alloc' HB3.out _).grown hg3 (below_alloc' HB3.out _).size (fun q hq => row_base hrow3.out q hq)
                have HO := Lib.hid (show IntsAt w3 w.heap.size (.slice A3 (T.length + 1) c3) (T ++ [(m : Int)]) by simpa [IntsAt] using hown3)
                clear hown3 hg3 hat3
                go_wp2
                go_roundw
                case rel => exact ⟨m + 1, A3, c3, by omega, by go_num, by rw [F.out, HT.out]; simp, by rw [F.out, HT.out]; simpa using HO, hB3⟩
                case measure => simp [intOf]; omega
            · have F := Lib.hid (show namedB (p.take (j + 1)) k (m : Int) = false by rw [S.out, hH.out]; simp [regK, hn])
              have e2 : (x.n == (m : Int)) = false := beq_eq_false_iff_ne.2 hn
              clear hn hk S Y hH
              go_wp2
              go_roundw
              case rel => exact ⟨j + 1, by omega, by go_num, rfl, HB2.out, F⟩
              case measure => simp [intOf]; omega
          · have F := Lib.hid (show namedB (p.take (j + 1)) k (m : Int) = false by rw [S.out, hH.out]; simp [regK, hk])
            have e1 : (x.kind == k) = false := beq_eq_false_iff_ne.2 hk
            clear hk S Y hH
            go_wp2
            go_roundw
            case rel => exact ⟨j + 1, by omega, by go_num, rfl, HB2.out, F⟩
            case measure => simp [intOf]; omega
        · have hH2 := hH.out
          rw [List.take_of_length_le (by omega)] at hH2
          have F := Lib.hid (namedTo_no hH2)
          clear hH hH2
          go_wp2
          go_roundw
          case rel => exact ⟨m + 1, A', c', by omega, by go_num, by rw [F.out, HT.out], by rw [F.out, HT.out]; exact hrow2, hBw⟩
          case measure => simp [intOf]; omega
    · obtain rfl : m = 16 := by omega
      go_wp2
      go_ret
      exact ⟨A', c', rfl, hrow.out, hB⟩
end Go.Proofs.YtefpolgflimlgaaDoor.Tm
