/- ToTerm, of both texts. -/
import Derived.Test.YtefpolgflimlgaaDoorPatO
namespace Go.Proofs.YtefpolgflimlgaaDoor.Tm
open Go.RowKit
set_option linter.unusedVariables false
set_option linter.unusedSimpArgs false

/-- A call answers a term in memory of its own, and a number. -/
def TermOwn (w : World) (r : List CellD × Int) (e : Ending) (w' : World) : Prop := ∃ A c, e = .returned (.tuple #[.slice A r.1.length c, .int .i64 r.2]) ∧ w'.ownsRow w.heap.size 32 3 (.slice A r.1.length c) r.1.length (encs r.1) ∧ Below w.heap.size w w'
theorem TermOwn.no {w w' : World} {k : Int} {r : List CellD × Int} (h : r = ([], k)) (hB : Below w.heap.size w w') : TermOwn w r (.returned (.tuple #[.slice none 0 0, .int .i64 k])) w' := by
  subst h
  exact ⟨none, 0, rfl, row_nil _ _ _ _, hB⟩
theorem tt_p {p : List CellD} {x : List (List CellD)} (h : (prightE p).1 ≠ 0) : toTermE p x = ([], (prightE p).1) := by rw [toTermE, if_pos h]
theorem tt_x {p : List CellD} {x : List (List CellD)} (h : (prightE p).1 = 0) (k : wrong8 x ≠ 0) : toTermE p x = ([], wrong8 x) := by rw [toTermE, if_neg (by simp [h]), if_pos k]
theorem tt_a {p : List CellD} {x : List (List CellD)} (h : (prightE p).1 = 0) (k : wrong8 x = 0) (a : (p.any fun c => decide (c.kind = 11)) = true) : toTermE p x = ([], 3) := by rw [toTermE, if_neg (by simp [h]), if_neg (by simp [k]), if_pos a]
theorem tt_n {p : List CellD} {x : List (List CellD)} (h : (prightE p).1 = 0) (k : wrong8 x = 0) (a : (p.any fun c => decide (c.kind = 11)) = false) (n : (p.any fun c => holeB c.kind && (regD x c.n).isEmpty) = true) : toTermE p x = ([], 5) := by
  rw [toTermE, if_neg (by simp [h]), if_neg (by simp [k]), if_neg (by simp [a]), if_pos n]
theorem tt_l {p : List CellD} {x : List (List CellD)} (h : (prightE p).1 = 0) (k : wrong8 x = 0) (a : (p.any fun c => decide (c.kind = 11)) = false) (n : (p.any fun c => holeB c.kind && (regD x c.n).isEmpty) = false) (l : 1024 < (p.flatMap (putD x)).length) : toTermE p x = ([], 7) := by
  rw [toTermE, if_neg (by simp [h]), if_neg (by simp [k]), if_neg (by simp [a]), if_neg (by simp [n]), if_pos l]
theorem tt_y {p : List CellD} {x : List (List CellD)} (h : (prightE p).1 = 0) (k : wrong8 x = 0) (a : (p.any fun c => decide (c.kind = 11)) = false) (n : (p.any fun c => holeB c.kind && (regD x c.n).isEmpty) = false) (l : ¬ 1024 < (p.flatMap (putD x)).length) : toTermE p x = (p.flatMap (putD x), 0) := by
  rw [toTermE, if_neg (by simp [h]), if_neg (by simp [k]), if_neg (by simp [a]), if_neg (by simp [n]), if_neg l]
theorem put_snoc {p : List CellD} {x : List (List CellD)} {j : Nat} (h : j < p.length) : (p.take (j + 1)).flatMap (putD x) = (p.take j).flatMap (putD x) ++ putD x p[j] := by
  rw [List.take_succ_eq_append_getElem h, List.flatMap_append]; simp
theorem put_cell {x : List (List CellD)} {c : CellD} (h : holeB c.kind = false) : putD x c = [c] := by rw [putD, if_neg (by simp [h])]
theorem put_hole {x : List (List CellD)} {c : CellD} (h : holeB c.kind = true) : putD x c = regD x c.n := by rw [putD, if_pos h]
theorem reg_1024 {x : List (List CellD)} (h : regsE x = 0) (n : Int) : (regD x n).length ≤ 1024 := by
  by_cases e : regD x n = []
  · rw [e]; simp
  · exact (rightE_ok (regD_right h n e)).2.2

set_option maxRecDepth 100000 in
set_option maxHeartbeats 8000000 in
theorem ptoterm_any (p : List CellD) (x : List (List CellD)) (A B : Option Addr) (c d : Nat) (w : World) (hr : Reads w A p) (hf : Fine p) (hx : Reads2 w B x) (fx : Fine2 x) (hc : p.length ≤ c) (hlx : x.length ≤ 1000000000000000) (hT : Tabs w) : Calls Tryd.prog 79 #[.slice A p.length c, .slice B x.length d] w (TermOwn w (toTermE p x)) := by
  obtain ⟨i0, hi, hz0, hz1, hz2⟩ := info_parts cell_info
  have hl := hf.lim
  have HR := Lib.hid hr
  have HF := Lib.hid hf
  have HX := Lib.hid hx
  have FX := Lib.hid fx
  have HT := Lib.hid hT
  clear hT
  clear hr hf hx fx
  go_enter Tryd.func79, Tryd.ntmps79
  go_wp2_with fail
  refine (pright_any p A c _ HR.out HF.out HT.out).mono ?_
  rintro e w1 ⟨rfl, hB1⟩
  by_cases ep : (prightE p).1 ≠ 0
  · have F := Lib.hid (tt_p (x := x) ep)
    have tp : ((prightE p).1 != 0) = true := by rw [bne_iff_ne]; exact ep
    clear ep
    go_wp2
    go_ret2
    exact TermOwn.no F.out hB1
  have ep : (prightE p).1 = 0 := Decidable.not_not.1 ep
  have tp : ((prightE p).1 != 0) = false := by rw [bne_eq_false_iff_eq]; exact ep
  have EP := Lib.hid ep
  have hlp := (prightE_ok ep).2.2
  have HX1 := Lib.hid (HX.out.below hB1)
  clear ep
  go_wp2_with fail
  refine (pwrong_any x B d _ HX1.out FX.out hlx (Utf8Tabs_below HT.out hB1)).mono ?_
  rintro e w2 ⟨rfl, hb2⟩
  have HB2 := Lib.hid (below_then hB1 hb2)
  clear hb2 hB1
  by_cases ex : wrong8 x ≠ 0
  · have F := Lib.hid (tt_x EP.out ex)
    have tx : (wrong8 x != 0) = true := by rw [bne_iff_ne]; exact ex
    clear ex
    go_wp2
    go_ret2
    exact TermOwn.no F.out HB2.out
  have ex : wrong8 x = 0 := Decidable.not_not.1 ex
  have tx : (wrong8 x != 0) = false := by rw [bne_eq_false_iff_eq]; exact ex
  have EX := Lib.hid ex
  have H1K := Lib.hid (fun n => reg_1024 (wrong8_regs ex).2 n)
  clear ex
  go_wp2_with fail
  go_loopw [31] (fun i wr => ∃ j : Nat, j ≤ p.length ∧ i = .int .i64 j ∧ Below w.heap.size w wr ∧ Hid (((p.take j).any fun c => decide (c.kind = 11)) = false)) (fun i wr => p.length - (intOf i).toNat)
  case atStart => exact ⟨0, Nat.zero_le _, rfl, HB2.out, rfl⟩
  case round =>
    obtain ⟨j, hj, rfl, hB, hH⟩ := hrel
    by_cases hlt : j < p.length
    · obtain ⟨b, o, hA, htc⟩ := HR.out j hlt
      subst hA
      obtain ⟨q0, q1, q2⟩ := htc.below hB
      have hi1 : (j : Int) < (p.length : Int) := by omega
      have hi0 : (0 : Int) ≤ (j : Int) := Int.natCast_nonneg _
      have S := Lib.hid (any_snoc (f := fun c : CellD => decide (c.kind = 11)) hlt)
      have Y := Lib.hid (any_at (f := fun c : CellD => decide (c.kind = 11)) hlt)
      generalize p[j] = y at *
      clear htc
      by_cases k11 : y.kind = 11
      · have F := Lib.hid (tt_a EP.out EX.out (Y.out (by simp [k11])))
        have e11 : (y.kind == 11) = true := by simp [k11]
        clear S Y hH k11
        go_wp2
        go_ret2
        exact TermOwn.no F.out (below_alloc' hB _)
      · have e11 : (y.kind == 11) = false := beq_eq_false_iff_ne.2 k11
        have F := Lib.hid (show ((p.take (j + 1)).any fun c => decide (c.kind = 11)) = false by rw [S.out, hH.out]; simp [k11])
        clear S Y hH k11
        go_wp2
        go_roundw
        case rel => exact ⟨j + 1, by omega, by go_num, below_alloc' hB _, F⟩
        case measure => simp [intOf]; omega
    · have hH2 := hH.out
      rw [List.take_of_length_le (by omega)] at hH2
      have EA := Lib.hid hH2
      have hB0 := hB
      clear hH hH2 hB
      go_wp2_with fail
      go_loopw [11, 12, 41] (fun v lg i wr => ∃ (j : Nat) (A' : Option Addr) (c' : Nat) (T : List CellD) (g : Bool), j ≤ p.length ∧ i = .int .i64 j ∧ v = .slice A' T.length c' ∧ lg = .bool g ∧ T.length ≤ 1024 + j ∧ Hid (wr.ownsRow w.heap.size 32 3 (.slice A' T.length c') T.length (encs T)) ∧ Below w.heap.size w wr ∧ Hid ((g = false → T = (p.take j).flatMap (putD x)) ∧ (g = true → 1024 < ((p.take j).flatMap (putD x)).length)) ∧ Hid (((p.take j).any fun c => holeB c.kind && (regD x c.n).isEmpty) = false)) (fun v lg i wr => p.length - (intOf i).toNat)
      case atStart => exact ⟨0, none, 0, [], false, Nat.zero_le _, rfl, rfl, rfl, by simp, row_nil _ _ _ _, hB0, ⟨fun _ => rfl, fun h => by cases h⟩, rfl⟩
      case round =>
        obtain ⟨j, A', c', T, g, hj2, rfl, rfl, rfl, hTl, hrow, hB, hS, hN⟩ := hrel
        by_cases hlt2 : j < p.length
        · obtain ⟨b, o, hA, htc⟩ := HR.out j hlt2
          subst hA
          obtain ⟨q0, q1, q2⟩ := htc.below hB
          have hi1 : (j : Int) < (p.length : Int) := by omega
          have hi0 : (0 : Int) ≤ (j : Int) := Int.natCast_nonneg _
          have S := Lib.hid (any_snoc (f := fun c : CellD => holeB c.kind && (regD x c.n).isEmpty) hlt2)
          have Y := Lib.hid (any_at (f := fun c : CellD => holeB c.kind && (regD x c.n).isEmpty) hlt2)
          have PS := Lib.hid (put_snoc (x := x) hlt2)
          generalize p[j] = y at *
          clear htc hB0
          have HBa := Lib.hid (below_alloc' hB (.cells #[.int .i64 y.kind, .int .i64 y.n, .string y.text] 95))
          have hrow2 := Lib.hid (hrow.out.alloc (.cells #[.int .i64 y.kind, .int .i64 y.n, .string y.text] 95))
          go_wp2_with fail
          refine (hole_any y.kind _).mono ?_
          rintro e w3 ⟨rfl, rfl⟩
          cases hh : holeB y.kind
          · have HN := Lib.hid (new_cell (wr.alloc (.cells #[.int .i64 y.kind, .int .i64 y.n, .string y.text] 95)) y 32)
            have NA := Lib.hid (show ((p.take (j + 1)).any fun c => holeB c.kind && (regD x c.n).isEmpty) = false by rw [S.out, hN.out, hh]; rfl)
            have PC := Lib.hid (put_cell (x := x) hh)
            clear hh S Y
            go_wp2_with (at_builtin; refine wpList_app _ rfl (.tmp 49) (.tmp 57) _ rfl w.heap.size _ i0 _ 3 32 Tryd.underlying22 hi hz0 hz1 hz2 rfl ?a0 (.slice A' T.length c') T.length (encs T) rfl ?a2 (some ⟨wr.heap.size + 1, 0, none⟩) 1 1 (encs [y]) rfl ?a3 ?a4 ?a5 ?a6 ?a7)
            case a0 => omega
            case a2 => exact hrow2.out.alloc _
            case a3 => exact Src.of_one (by have h := HN.out; rw [World.size_alloc] at h; exact h)
            case a4 => simp only [maxLen]; omega
            case a5 => omega
            case a6 => rw [World.size_alloc]; have := HBa.out.size; omega
            case a7 =>
              intro v2 w2 hown2 hg2 hat2
              rw [← encs_append] at hown2
              have hB2 : Below w.heap.size w w2 := (below_alloc' HBa.out _).grown hg2 (below_alloc' HBa.out _).size (fun q hq => row_base hrow2.out q hq)
              obtain ⟨A2, c2, rfl⟩ := row_slice hown2
              have HO := Lib.hid (show w2.ownsRow w.heap.size 32 3 (.slice A2 (T ++ [y]).length c2) (T ++ [y]).length (encs (T ++ [y])) by simpa using hown2)
              clear hown2 hg2 hat2 q0 q1 q2
              go_wp2
              go_roundw
              case rel => exact ⟨j + 1, A2, c2, T ++ [y], g, by omega, by go_num, by simp, rfl, by simp; omega, HO, hB2, ⟨fun h => by rw [PS.out, PC.out, ← hS.out.1 h], fun h => by rw [PS.out, List.length_append]; have := hS.out.2 h; omega⟩, NA⟩
              case measure => simp [intOf]; omega
          · have PH := Lib.hid (put_hole (x := x) hh)
            go_wp2_with fail
            refine (register_any x y.n B d _ (HX.out.below HBa.out) hlx).mono ?_
            rintro e w4 ⟨A4, c4, rfl, hc4, hR4, hb4⟩
            have HB4 := Lib.hid (below_then HBa.out hb4)
            have hrow4 := Lib.hid (row_below hrow2.out hb4)
            have hk1 := H1K.out y.n
            by_cases hz : (regD x y.n).length = 0
            · have F := Lib.hid (tt_n EP.out EX.out EA.out (Y.out (by simp [hh, List.eq_nil_of_length_eq_zero hz])))
              rw [hz]
              clear hz S Y hh hS hN hR4 hc4 hk1
              go_wp2
              go_ret2
              exact TermOwn.no F.out HB4.out
            have NA := Lib.hid (show ((p.take (j + 1)).any fun c => holeB c.kind && (regD x c.n).isEmpty) = false by rw [S.out, hN.out, hh]; cases hq : regD x y.n with | nil => (rw [hq] at hz; exact absurd rfl hz) | cons => rfl)
            have hzb : (((regD x y.n).length : Int) == 0) = false := beq_eq_false_iff_ne.2 (by omega)
            have HS4 := Lib.hid (Src.of_reads hR4)
            have HR4 := Lib.hid hR4
            clear hz S Y hh hR4 hb4
            have PHl : Hid ((putD x y).length = (regD x y.n).length) := by rw [PH.out]; rfl
            generalize regD x y.n = r at *
            by_cases hbig : g = true ∨ 1024 < T.length + r.length
            · have NS := Lib.hid (show 1024 < ((p.take (j + 1)).flatMap (putD x)).length by
                rw [PS.out, List.length_append, PHl.out]
                cases g with
                | true => have := hS.out.2 rfl; omega
                | false => rcases hbig with h | h
                           · cases h
                           · rw [← hS.out.1 rfl]; exact h)
              cases g
              · have hgt : (1024 : Int) - (T.length : Int) < (r.length : Int) := by have := hbig.resolve_left (by simp); omega
                clear hbig hc4
                go_wp2
                go_roundw
                case rel => exact ⟨j + 1, A', c', T, true, by omega, by go_num, rfl, rfl, by omega, hrow4, HB4.out, ⟨fun h => (by cases h), fun _ => NS.out⟩, NA⟩
                case measure => simp [intOf]; omega
              · clear hbig hc4
                go_wp2
                go_roundw
                case rel => exact ⟨j + 1, A', c', T, true, by omega, by go_num, rfl, rfl, by omega, hrow4, HB4.out, ⟨fun h => (by cases h), fun _ => NS.out⟩, NA⟩
                case measure => simp [intOf]; omega
            · have hg0 : g = false := Bool.eq_false_iff.2 (fun h => hbig (.inl h))
              subst hg0
              have HT1 := Lib.hid (hS.out.1 rfl)
              have hle : T.length + r.length ≤ 1024 := by have := fun h => hbig (.inr h); omega
              have hngt : decide ((1024 : Int) - (T.length : Int) < (r.length : Int)) = false := decide_eq_false (by omega)
              clear hbig
              go_wp2_with (at_builtin; refine wpList_app _ rfl (.tmp 77) (.tmp 78) _ rfl w.heap.size _ i0 _ 3 32 Tryd.underlying22 hi hz0 hz1 hz2 rfl ?a0 (.slice A' T.length c') T.length (encs T) rfl ?a2 A4 r.length c4 (encs r) rfl ?a3 ?a4 ?a5 ?a6 ?a7)
              case a0 => omega
              case a2 => exact hrow4.out
              case a3 => exact HS4.out
              case a4 => simp only [maxLen]; omega
              case a5 => omega
              case a6 => exact HB4.out.size
              case a7 =>
                intro v2 w2 hown2 hg2 hat2
                rw [← encs_append] at hown2
                have hB2 : Below w.heap.size w w2 := HB4.out.grown hg2 HB4.out.size (fun q hq => row_base hrow4.out q hq)
                obtain ⟨A2, c2, rfl⟩ := row_slice hown2
                have HO := Lib.hid (show w2.ownsRow w.heap.size 32 3 (.slice A2 (T ++ r).length c2) (T ++ r).length (encs (T ++ r)) by simpa using hown2)
                clear hown2 hg2 hat2 q0 q1 q2
                go_wp2
                go_roundw
                case rel => exact ⟨j + 1, A2, c2, T ++ r, false, by omega, by go_num, by simp, rfl, by simp; omega, HO, hB2, ⟨fun _ => by rw [PS.out, PH.out, ← HT1.out], fun h => (by cases h)⟩, NA⟩
                case measure => simp [intOf]; omega
        · obtain rfl : j = p.length := by omega
          have hN2 := hN.out
          have hS2 := hS.out
          rw [List.take_length] at hN2 hS2
          have EN := Lib.hid hN2
          have HS2 := Lib.hid hS2
          clear hN hS hN2 hS2 hB0
          cases g
          · have hTS := HS2.out.1 rfl
            by_cases hl2 : 1024 < T.length
            · have F := Lib.hid (tt_l EP.out EX.out EA.out EN.out (by rw [← hTS]; exact hl2))
              clear hTS HS2
              go_wp2
              go_ret2
              exact TermOwn.no F.out hB
            · have F := Lib.hid (tt_y EP.out EX.out EA.out EN.out (by rw [← hTS]; exact hl2))
              rw [← hTS] at F
              have hld : decide ((1024 : Int) < (T.length : Int)) = false := decide_eq_false (by omega)
              clear hTS HS2 hl2
              go_wp2
              go_ret2
              rw [F.out]
              exact ⟨A', c', rfl, hrow.out, hB⟩
          · have F := Lib.hid (tt_l EP.out EX.out EA.out EN.out (HS2.out.2 rfl))
            clear HS2
            go_wp2
            go_ret2
            exact TermOwn.no F.out hB
set_option maxRecDepth 100000 in
set_option maxHeartbeats 8000000 in
theorem rtoterm_any (p : List CellD) (x : List (List CellD)) (A B : Option Addr) (c d : Nat) (w : World) (hr : Reads w A p) (hf : Fine p) (hx : Reads2 w B x) (fx : Fine2 x) (hc : p.length ≤ c) (hlx : x.length ≤ 1000000000000000) : Calls Tryd.prog 86 #[.slice A p.length c, .slice B x.length d] w (TermOwn w (toTermE p x)) := by
  obtain ⟨i0, hi, hz0, hz1, hz2⟩ := info_parts cell_info
  have hl := hf.lim
  have HR := Lib.hid hr
  have HF := Lib.hid hf
  have HX := Lib.hid hx
  have FX := Lib.hid fx
  clear hr hf hx fx
  go_enter Tryd.func86, Tryd.ntmps86
  go_wp2_with fail
  refine (prright_any p A c _ HR.out HF.out hc).mono ?_
  rintro e w1 ⟨rfl, hB1⟩
  by_cases ep : (prightE p).1 ≠ 0
  · have F := Lib.hid (tt_p (x := x) ep)
    have tp : ((prightE p).1 != 0) = true := by rw [bne_iff_ne]; exact ep
    clear ep
    go_wp2
    go_ret2
    exact TermOwn.no F.out hB1
  have ep : (prightE p).1 = 0 := Decidable.not_not.1 ep
  have tp : ((prightE p).1 != 0) = false := by rw [bne_eq_false_iff_eq]; exact ep
  have EP := Lib.hid ep
  have hlp := (prightE_ok ep).2.2
  have HX1 := Lib.hid (HX.out.below hB1)
  clear ep
  go_wp2_with fail
  refine (rwrong8_any x B d _ HX1.out FX.out hlx).mono ?_
  rintro e w2 ⟨rfl, hb2⟩
  have HB2 := Lib.hid (below_then hB1 hb2)
  clear hb2 hB1
  by_cases ex : wrong8 x ≠ 0
  · have F := Lib.hid (tt_x EP.out ex)
    have tx : (wrong8 x != 0) = true := by rw [bne_iff_ne]; exact ex
    clear ex
    go_wp2
    go_ret2
    exact TermOwn.no F.out HB2.out
  have ex : wrong8 x = 0 := Decidable.not_not.1 ex
  have tx : (wrong8 x != 0) = false := by rw [bne_eq_false_iff_eq]; exact ex
  have EX := Lib.hid ex
  have H1K := Lib.hid (fun n => reg_1024 (wrong8_regs ex).2 n)
  clear ex
  go_wp2_with fail
  go_loopw [29] (fun i wr => ∃ j : Nat, j ≤ p.length ∧ i = .int .i64 j ∧ Below w.heap.size w wr ∧ Hid (((p.take j).any fun c => decide (c.kind = 11)) = false)) (fun i wr => p.length - (intOf i).toNat)
  case atStart => exact ⟨0, Nat.zero_le _, rfl, HB2.out, rfl⟩
  case round =>
    obtain ⟨j, hj, rfl, hB, hH⟩ := hrel
    by_cases hlt : j < p.length
    · obtain ⟨b, o, hA, htc⟩ := HR.out j hlt
      subst hA
      obtain ⟨q0, q1, q2⟩ := htc.below hB
      have hi1 : (j : Int) < (p.length : Int) := by omega
      have hi0 : (0 : Int) ≤ (j : Int) := Int.natCast_nonneg _
      have S := Lib.hid (any_snoc (f := fun c : CellD => decide (c.kind = 11)) hlt)
      have Y := Lib.hid (any_at (f := fun c : CellD => decide (c.kind = 11)) hlt)
      generalize p[j] = y at *
      clear htc
      by_cases k11 : y.kind = 11
      · have F := Lib.hid (tt_a EP.out EX.out (Y.out (by simp [k11])))
        have e11 : (y.kind == 11) = true := by simp [k11]
        clear S Y hH k11
        go_wp2
        go_ret2
        exact TermOwn.no F.out (below_alloc' hB _)
      · have e11 : (y.kind == 11) = false := beq_eq_false_iff_ne.2 k11
        have F := Lib.hid (show ((p.take (j + 1)).any fun c => decide (c.kind = 11)) = false by rw [S.out, hH.out]; simp [k11])
        clear S Y hH k11
        go_wp2
        go_roundw
        case rel => exact ⟨j + 1, by omega, by go_num, below_alloc' hB _, F⟩
        case measure => simp [intOf]; omega
    · have hH2 := hH.out
      rw [List.take_of_length_le (by omega)] at hH2
      have EA := Lib.hid hH2
      have hB0 := hB
      clear hH hH2 hB
      go_wp2_with fail
      go_loopw [11, 39] (fun v i wr => ∃ (j : Nat) (A' : Option Addr) (c' : Nat) (T : List CellD), j ≤ p.length ∧ i = .int .i64 j ∧ v = .slice A' T.length c' ∧ T.length ≤ 1024 * j ∧ Hid (wr.ownsRow w.heap.size 32 3 (.slice A' T.length c') T.length (encs T)) ∧ Below w.heap.size w wr ∧ Hid (T = (p.take j).flatMap (putD x)) ∧ Hid (((p.take j).any fun c => holeB c.kind && (regD x c.n).isEmpty) = false)) (fun v i wr => p.length - (intOf i).toNat)
      case atStart => exact ⟨0, none, 0, [], Nat.zero_le _, rfl, rfl, by simp, row_nil _ _ _ _, hB0, rfl, rfl⟩
      case round =>
        obtain ⟨j, A', c', T, hj2, rfl, rfl, hTl, hrow, hB, hS, hN⟩ := hrel
        by_cases hlt2 : j < p.length
        · obtain ⟨b, o, hA, htc⟩ := HR.out j hlt2
          subst hA
          obtain ⟨q0, q1, q2⟩ := htc.below hB
          have hi1 : (j : Int) < (p.length : Int) := by omega
          have hi0 : (0 : Int) ≤ (j : Int) := Int.natCast_nonneg _
          have S := Lib.hid (any_snoc (f := fun c : CellD => holeB c.kind && (regD x c.n).isEmpty) hlt2)
          have Y := Lib.hid (any_at (f := fun c : CellD => holeB c.kind && (regD x c.n).isEmpty) hlt2)
          have PS := Lib.hid (put_snoc (x := x) hlt2)
          generalize p[j] = y at *
          clear htc hB0
          have HBa := Lib.hid (below_alloc' hB (.cells #[.int .i64 y.kind, .int .i64 y.n, .string y.text] 95))
          have hrow2 := Lib.hid (hrow.out.alloc (.cells #[.int .i64 y.kind, .int .i64 y.n, .string y.text] 95))
          go_wp2_with fail
          refine (free_any y.kind _).mono ?_
          rintro e w3 ⟨rfl, rfl⟩
          cases hh : holeB y.kind
          · have HN := Lib.hid (new_cell (wr.alloc (.cells #[.int .i64 y.kind, .int .i64 y.n, .string y.text] 95)) y 32)
            have NA := Lib.hid (show ((p.take (j + 1)).any fun c => holeB c.kind && (regD x c.n).isEmpty) = false by rw [S.out, hN.out, hh]; rfl)
            have PC := Lib.hid (put_cell (x := x) hh)
            clear hh S Y
            go_wp2_with (at_builtin; refine wpList_app _ rfl (.tmp 47) (.tmp 55) _ rfl w.heap.size _ i0 _ 3 32 Tryd.underlying22 hi hz0 hz1 hz2 rfl ?a0 (.slice A' T.length c') T.length (encs T) rfl ?a2 (some ⟨wr.heap.size + 1, 0, none⟩) 1 1 (encs [y]) rfl ?a3 ?a4 ?a5 ?a6 ?a7)
            case a0 => omega
            case a2 => exact hrow2.out.alloc _
            case a3 => exact Src.of_one (by have h := HN.out; rw [World.size_alloc] at h; exact h)
            case a4 => simp only [maxLen]; omega
            case a5 => omega
            case a6 => rw [World.size_alloc]; have := HBa.out.size; omega
            case a7 =>
              intro v2 w2 hown2 hg2 hat2
              rw [← encs_append] at hown2
              have hB2 : Below w.heap.size w w2 := (below_alloc' HBa.out _).grown hg2 (below_alloc' HBa.out _).size (fun q hq => row_base hrow2.out q hq)
              obtain ⟨A2, c2, rfl⟩ := row_slice hown2
              have HO := Lib.hid (show w2.ownsRow w.heap.size 32 3 (.slice A2 (T ++ [y]).length c2) (T ++ [y]).length (encs (T ++ [y])) by simpa using hown2)
              clear hown2 hg2 hat2 q0 q1 q2
              go_wp2
              go_roundw
              case rel => exact ⟨j + 1, A2, c2, T ++ [y], by omega, by go_num, by simp, by simp; omega, HO, hB2, (show T ++ [y] = (p.take (j + 1)).flatMap (putD x) from by rw [PS.out, PC.out, ← hS.out]), NA⟩
              case measure => simp [intOf]; omega
          · have PH := Lib.hid (put_hole (x := x) hh)
            go_wp2_with fail
            refine (reg_any x y.n B d _ (HX.out.below HBa.out) hlx).mono ?_
            rintro e w4 ⟨A4, c4, rfl, hc4, hR4, hb4⟩
            have HB4 := Lib.hid (below_then HBa.out hb4)
            have hrow4 := Lib.hid (row_below hrow2.out hb4)
            have hk1 := H1K.out y.n
            have y0 := cell_below hb4 (a := ⟨wr.heap.size, 1, none⟩) (v := .int .i64 y.n) (by go_cell)
            by_cases hz : (regD x y.n).length = 0
            · have F := Lib.hid (tt_n EP.out EX.out EA.out (Y.out (by simp [hh, List.eq_nil_of_length_eq_zero hz])))
              rw [hz]
              clear hz S Y hh hS hN hR4 hc4 hk1
              go_wp2
              go_ret2
              exact TermOwn.no F.out HB4.out
            have NA := Lib.hid (show ((p.take (j + 1)).any fun c => holeB c.kind && (regD x c.n).isEmpty) = false by rw [S.out, hN.out, hh]; cases hq : regD x y.n with | nil => (rw [hq] at hz; exact absurd rfl hz) | cons => rfl)
            have hzb : (((regD x y.n).length : Int) == 0) = false := beq_eq_false_iff_ne.2 (by omega)
            have HS4 := Lib.hid (Src.of_reads hR4)
            have HR4 := Lib.hid hR4
            clear hz S Y hh hR4 hb4 hc4
            go_wp2_with fail
            refine (reg_any x y.n B d _ (HX.out.below HB4.out) hlx).mono ?_
            rintro e w5 ⟨A5, c5, rfl, hc5, hR5, hb5⟩
            have HB5 := Lib.hid (below_then HB4.out hb5)
            have hrow5 := Lib.hid (row_below hrow4.out hb5)
            have HS5 := Lib.hid (Src.of_reads hR5)
            clear hR5 hb5 hc5
            generalize regD x y.n = r at *
            go_wp2_with (at_builtin; refine wpList_app _ rfl (.tmp 63) (.tmp 67) _ rfl w.heap.size _ i0 _ 3 32 Tryd.underlying22 hi hz0 hz1 hz2 rfl ?a0 (.slice A' T.length c') T.length (encs T) rfl ?a2 A5 r.length c5 (encs r) rfl ?a3 ?a4 ?a5 ?a6 ?a7)
            case a0 => omega
            case a2 => exact hrow5.out
            case a3 => exact HS5.out
            case a4 => simp only [maxLen]; omega
            case a5 => omega
            case a6 => exact HB5.out.size
            case a7 =>
              intro v2 w2 hown2 hg2 hat2
              rw [← encs_append] at hown2
              have hB2 : Below w.heap.size w w2 := HB5.out.grown hg2 HB5.out.size (fun q hq => row_base hrow5.out q hq)
              obtain ⟨A2, c2, rfl⟩ := row_slice hown2
              have HO := Lib.hid (show w2.ownsRow w.heap.size 32 3 (.slice A2 (T ++ r).length c2) (T ++ r).length (encs (T ++ r)) by simpa using hown2)
              clear hown2 hg2 hat2 q0 q1 q2
              go_wp2
              go_roundw
              case rel => exact ⟨j + 1, A2, c2, T ++ r, by omega, by go_num, by simp, by simp; omega, HO, hB2, (show T ++ r = (p.take (j + 1)).flatMap (putD x) from by rw [PS.out, PH.out, ← hS.out]), NA⟩
              case measure => simp [intOf]; omega
        · obtain rfl : j = p.length := by omega
          have hN2 := hN.out
          have hS2 := hS.out
          rw [List.take_length] at hN2 hS2
          have EN := Lib.hid hN2
          have hTS := hS2
          clear hN hS hN2 hS2 hB0
          by_cases hl2 : 1024 < T.length
          · have F := Lib.hid (tt_l EP.out EX.out EA.out EN.out (by rw [← hTS]; exact hl2))
            clear hTS
            go_wp2
            go_ret2
            exact TermOwn.no F.out hB
          · have F := Lib.hid (tt_y EP.out EX.out EA.out EN.out (by rw [← hTS]; exact hl2))
            rw [← hTS] at F
            have hld : decide ((1024 : Int) < (T.length : Int)) = false := decide_eq_false (by omega)
            clear hTS hl2
            go_wp2
            go_ret2
            rw [F.out]
            exact ⟨A', c', rfl, hrow.out, hB⟩
end Go.Proofs.YtefpolgflimlgaaDoor.Tm
