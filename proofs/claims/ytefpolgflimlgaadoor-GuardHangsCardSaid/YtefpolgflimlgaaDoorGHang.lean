/- The law GuardHangs. -/
import Derived.Test.YtefpolgflimlgaaDoorAsksI
namespace Go.Proofs.YtefpolgflimlgaaDoor.Tm
open Go.RowKit
set_option linter.unusedVariables false
set_option linter.unusedSimpArgs false

/-- Registers of which those that a guard doesn't ask, and that can be, are another term. -/
def swapL (g : List TestD) (other : List CellD) : Nat → List (List CellD) → List (List CellD)
  | _, [] => []
  | i, t :: x => (if asksB g ((i : Nat) : Int) = true ∨ (0 < t.length ∧ (rightE t).1 ≠ 0) then t else other) :: swapL g other (i + 1) x
theorem swap_len (g : List TestD) (other : List CellD) : ∀ (x : List (List CellD)) (i : Nat), (swapL g other i x).length = x.length
  | [], i => rfl
  | t :: x, i => by simp [swapL, swap_len g other x (i + 1)]
theorem swap_at (g : List TestD) (other : List CellD) : ∀ (x : List (List CellD)) (i k : Nat) (h : k < x.length), (swapL g other i x)[k]'(by rw [swap_len]; exact h) = if asksB g (((i + k : Nat)) : Int) = true ∨ (0 < x[k].length ∧ (rightE x[k]).1 ≠ 0) then x[k] else other
  | [], i, k, h => absurd h (Nat.not_lt_zero k)
  | t :: x, i, 0, h => rfl
  | t :: x, i, k + 1, h => by
    have := swap_at g other x (i + 1) k (by simpa using h)
    simp only [swapL, List.getElem_cons_succ]
    rw [this, show i + 1 + k = i + (k + 1) by omega]
theorem swap_regs (g : List TestD) (other : List CellD) (ho : ¬ (0 < other.length ∧ (rightE other).1 ≠ 0)) : ∀ (x : List (List CellD)) (i : Nat), regsE (swapL g other i x) = regsE x
  | [], i => rfl
  | t :: x, i => by
    have ih := swap_regs g other ho x (i + 1)
    by_cases hk : 0 < t.length ∧ (rightE t).1 ≠ 0
    · simp only [swapL]
      rw [if_pos (.inr hk), regsE, if_pos hk, regsE, if_pos hk]
    · by_cases hc : asksB g ((i : Nat) : Int) = true ∨ (0 < t.length ∧ (rightE t).1 ≠ 0)
      · simp only [swapL]
        rw [if_pos hc, regsE, if_neg hk, ih, regsE, if_neg hk]
      · simp only [swapL]
        rw [if_neg hc, regsE, if_neg ho, ih, regsE, if_neg hk]
theorem swap_reg {g : List TestD} {other : List CellD} {x : List (List CellD)} {n : Int} (h : 0 ≤ n → asksB g n = true) : regD (swapL g other 0 x) n = regD x n := by
  by_cases h0 : n < 0
  · rw [regD, regD, if_pos h0, if_pos h0]
  · obtain ⟨m, rfl⟩ : ∃ m : Nat, n = m := ⟨n.toNat, by omega⟩
    by_cases hm : m < x.length
    · rw [regD_in hm, regD_in (by rw [swap_len]; exact hm), swap_at g other x 0 m hm, if_pos (.inl (by rw [Nat.zero_add]; exact h (by omega)))]
    · rw [regD_out (x := swapL g other 0 x) (by rw [swap_len]; omega), regD_out (x := x) (by omega)]
theorem swap_value {g : List TestD} {other : List CellD} {x : List (List CellD)} {a : CellD} (h : a.kind = 1 → asksB g a.n = true) : valueD a (swapL g other 0 x) = valueD a x := by
  by_cases h1 : a.kind = 1
  · rw [valueD1 h1, valueD1 h1]; exact swap_reg (fun _ => h h1)
  · unfold valueD
    rw [if_neg h1, if_neg h1]
theorem swap_holds {g : List TestD} {other : List CellD} {x : List (List CellD)} (ho : ¬ (0 < other.length ∧ (rightE other).1 ≠ 0)) : holdsE g (swapL g other 0 x) = holdsE g x := by
  unfold holdsE
  rw [swap_len, swap_regs g other ho x 0]
  by_cases hg : guardE g = 0
  · simp only [hg, ne_eq, not_true_eq_false, if_false]
    split
    · rfl
    · split
      · rfl
      · have e : g.all (holdB (swapL g other 0 x)) = g.all (holdB x) := by
          rw [Bool.eq_iff_iff, List.all_eq_true, List.all_eq_true]
          have key : ∀ t ∈ g, holdB (swapL g other 0 x) t = holdB x t := fun t ht => by
            have ea : valueD t.a (swapL g other 0 x) = valueD t.a x := swap_value fun k => by
              simp only [asksB, List.any_eq_true]
              exact ⟨t, ht, by simp [k]⟩
            have eb : valueD t.b (swapL g other 0 x) = valueD t.b x := swap_value fun k => by
              simp only [asksB, List.any_eq_true]
              exact ⟨t, ht, by simp [k]⟩
            unfold holdB
            rw [ea, eb]
          constructor <;> intro k t ht
          · rw [← key t ht]; exact k t ht
          · rw [key t ht]; exact k t ht
        rw [e]
  · rw [if_pos hg, if_pos hg]
theorem asked_snoc {l : List Int} {j : Nat} (h : j < l.length) (n : Int) : ((l.take (j + 1)).any fun v => decide (v = n)) = (((l.take j).any fun v => decide (v = n)) || decide (l[j] = n)) := any_snoc h
theorem asked_all {g : List TestD} {k : Nat} (h : k < 16) : ((asksD g).any fun v => decide (v = (k : Int))) = asksB g (k : Int) := by
  rw [Bool.eq_iff_iff, List.any_eq_true]
  constructor
  · rintro ⟨v, hv, e⟩
    have : v = (k : Int) := by simpa using e
    subst this
    exact (asksD_mem.1 hv).2.2
  · intro e
    exact ⟨(k : Int), asksD_mem.2 ⟨by omega, by omega, e⟩, by simp⟩
/-- A slice that reads as a term in a world. -/
def FitIn (w : World) (A : Option Addr) (c : Nat) (l : List CellD) : Prop := l.length ≤ c ∧ Reads w A l
theorem swap_fine {g : List TestD} {x : List (List CellD)} {other : List CellD} (h : Fine2 x) (k : Fine other) : Fine2 (swapL g other 0 x) := fun j hj => by
  rw [swap_at g other x 0 j (by rw [swap_len] at hj; exact hj)]
  split
  · exact h _ _
  · exact k
theorem gHolds_len (m : Nat) (g : List TestD) (x : List (List CellD)) (hm : x.length = m) (A B : Option Addr) (c d : Nat) (w : World) (hr : TReads w A g) (hf : FineT g) (hx : Reads2 w B x) (hfx : Fine2 x) (hl : x.length ≤ 1000000000000000) (hT : Tabs w) :
    Calls Tryd.prog 40 #[.slice A g.length c, .slice B m d] w fun e w' => e = .returned (.tuple #[.bool (holdsE g x).1, .int .i64 (holdsE g x).2]) ∧ Below w.heap.size w w' := by
  subst hm
  exact gHolds_any g x A B c d w hr hf hx hfx hl hT
set_option maxRecDepth 100000 in
set_option maxHeartbeats 8000000 in
theorem guardHangs_any (g : List TestD) (x : List (List CellD)) (other : List CellD) (A B C : Option Addr) (c d e : Nat) (w : World) (hr : TReads w A g) (hf : FineT g) (hx : Reads2 w B x) (hfx : Fine2 x) (ho : Reads w C other) (hfo : Fine other) (hce : other.length ≤ e) (hl : x.length ≤ 1000000000000000) (hT : Tabs w) :
    Calls Tryd.prog 11 #[.slice A g.length c, .slice B x.length d, .slice C other.length e] w fun e w' => e = .returned (.bool true) ∧ Below w.heap.size w w' := by
  obtain ⟨i0, hi, hz0, hz1, hz2⟩ := info_parts sl_info
  have HR := Lib.hid hr
  have HF := Lib.hid hf
  have HX := Lib.hid hx
  have HFX := Lib.hid hfx
  have HO := Lib.hid ho
  have HFO := Lib.hid hfo
  have HT := Lib.hid hT
  have hlo := hfo.lim
  have hlg : g.length ≤ 1000000000000000 := by have := hf.len; omega
  clear hr hf hx hfx ho hfo hT
  go_enter Tryd.func11, Tryd.ntmps11
  go_wp2_with fail
  refine (rright_any other C e _ HO.out HFO.out.text HFO.out.lim).mono ?_
  rintro e w1 ⟨rfl, hB1⟩
  by_cases hbad : 0 < other.length ∧ (rightE other).1 ≠ 0
  · obtain ⟨hb0, hb1⟩ := hbad
    have hn0 : (0 : Int) < (other.length : Int) := by omega
    have hn1 : ((rightE other).1 != 0) = true := by rw [bne_iff_ne]; exact hb1
    clear hb1
    generalize (rightE other).1 = E at *
    generalize other.length = n at *
    go_wp2_with fail
    refine (known9_any _ (Utf8Tabs_below HT.out hB1)).mono ?_
    rintro e w9 ⟨rfl, hb9⟩
    go_wp2
    go_ret
    exact ⟨rfl, below_then hB1 hb9⟩
  have HBAD := Lib.hid hbad
  by_cases h16 : 16 < x.length
  · have h16' : (16 : Int) < (x.length : Int) := by omega
    by_cases hn : 0 < other.length
    · have hn0 : (0 : Int) < (other.length : Int) := by omega
      have hn1 : ((rightE other).1 != 0) = false := by rw [bne_eq_false_iff_eq]; exact Decidable.byContradiction fun h => hbad ⟨hn, h⟩
      clear hbad
      generalize (rightE other).1 = E at *
      generalize other.length = n at *
      go_wp2_with fail
      refine (known9_any _ (Utf8Tabs_below HT.out hB1)).mono ?_
      rintro e w9 ⟨rfl, hb9⟩
      go_wp2
      go_ret
      exact ⟨rfl, below_then hB1 hb9⟩
    · have hn0 : ¬ (0 : Int) < (other.length : Int) := by omega
      have hn1 : decide ((0 : Int) < (other.length : Int)) = false := decide_eq_false hn0
      clear hbad
      generalize (rightE other).1 = E at *
      generalize other.length = n at *
      go_wp2_with fail
      refine (known9_any _ (Utf8Tabs_below HT.out hB1)).mono ?_
      rintro e w9 ⟨rfl, hb9⟩
      go_wp2
      go_ret
      exact ⟨rfl, below_then hB1 hb9⟩
  have hx16 : x.length ≤ 16 := by omega
  have hb16 : decide ((16 : Int) < (x.length : Int)) = false := decide_eq_false (by omega)
  have HG1 := Lib.hid (HR.out.below hB1)
  have HSH := Lib.hid (swap_holds (g := g) (x := x) HBAD.out)
  clear HBAD
  by_cases hn : 0 < other.length
  · have hn0 : (0 : Int) < (other.length : Int) := by omega
    have hn1 : ((rightE other).1 != 0) = false := by rw [bne_eq_false_iff_eq]; exact Decidable.byContradiction fun h => hbad ⟨hn, h⟩
    clear hbad h16
    generalize (rightE other).1 = E1 at *
    go_wp2_with fail
    refine (asks_any g A c _ HG1.out hlg).mono ?_
    rintro e' w2 ⟨A2, c2, rfl, hI2, hb2⟩
    have hB2 := below_then hB1 hb2
    have HB2 := Lib.hid hB2
    have HI := Lib.hid hI2
    have hlen := asks_len g
    clear hI2 hb2 hB1 hB2 HG1
    go_wp2_with fail
    go_loopw [10, 11] (fun v i wr => ∃ (k : Nat) (A' : Option Addr) (c' : Nat) (vs : List Value), k ≤ x.length ∧ i = .int .i64 k ∧ v = .slice A' k c' ∧ Hid (wr.ownsRow w2.heap.size 22 1 (.slice A' k c') k vs) ∧ Hid (Each (FitIn w) vs ((swapL g other 0 x).take k)) ∧ Below w2.heap.size w2 wr) (fun v i wr => x.length - (intOf i).toNat)
    case atStart => exact ⟨0, none, 0, [], Nat.zero_le _, rfl, rfl, row_nil _ _ _ _, by rw [List.take_zero]; exact Each.nil, Below.refl _ _⟩
    case round =>
      obtain ⟨k, A', c', vs, hk, rfl, rfl, hrow, hE, hB⟩ := hrel
      by_cases hlt : k < x.length
      · obtain ⟨wo, hwo⟩ : ∃ wo : World, wo = wr := ⟨_, rfl⟩
        subst hwo
        go_wp2_with fail
        go_loopw [12, 13] (fun m i w3 => ∃ j : Nat, j ≤ (asksD g).length ∧ i = .int .i64 j ∧ m = .bool (((asksD g).take j).any fun v => decide (v = (k : Int))) ∧ Below wo.heap.size wo w3) (fun m i w3 => (asksD g).length - (intOf i).toNat)
        case atStart => exact ⟨0, Nat.zero_le _, rfl, rfl, Below.refl _ _⟩
        case round =>
          obtain ⟨j, hj, rfl, rfl, hB3⟩ := hrel
          have hBw := below_then hB hB3
          by_cases hlj : j < (asksD g).length
          · obtain ⟨g2, hA2, hcg⟩ := (HI.out.below hBw).cells hlj
            subst hA2
            have S := Lib.hid (asked_snoc hlj (k : Int))
            have hi1 : (j : Int) < ((asksD g).length : Int) := by omega
            have hi0 : (0 : Int) ≤ (j : Int) := Int.natCast_nonneg _
            generalize (asksD g)[j] = v at *
            cases hb : ((asksD g).take j).any fun v => decide (v = (k : Int))
            · rw [hb] at S
              by_cases hv : v = k
              · have e1 : (v == (k : Int)) = true := by simp [hv]
                have F := Lib.hid (show ((asksD g).take (j + 1)).any (fun v => decide (v = (k : Int))) = true by rw [S.out]; simp [hv])
                clear hv S hb
                go_wp2
                go_roundw
                case rel => exact ⟨j + 1, by omega, by go_num, by rw [F.out], hB3⟩
                case measure => simp [intOf]; omega
              · have e1 : (v == (k : Int)) = false := beq_eq_false_iff_ne.2 hv
                have F := Lib.hid (show ((asksD g).take (j + 1)).any (fun v => decide (v = (k : Int))) = false by rw [S.out]; simp [hv])
                clear hv S hb
                go_wp2
                go_roundw
                case rel => exact ⟨j + 1, by omega, by go_num, by rw [F.out], hB3⟩
                case measure => simp [intOf]; omega
            · have F := Lib.hid (show ((asksD g).take (j + 1)).any (fun v => decide (v = (k : Int))) = true by rw [S.out, hb]; rfl)
              clear S hb
              go_wp2
              go_roundw
              case rel => exact ⟨j + 1, by omega, by go_num, by rw [F.out], hB3⟩
              case measure => simp [intOf]; omega
          · have hall : ((asksD g).take j).any (fun v => decide (v = (k : Int))) = asksB g (k : Int) := by rw [List.take_of_length_le (by omega)]; exact asked_all (by omega)
            rw [hall]
            obtain ⟨b, o, hA, Ak, ck, q0, q1, q2⟩ := HX.out k hlt
            subst hA
            have q0' := cell_below (below_then HB2.out hBw) q0
            have hfk := Lib.hid (HFX.out k hlt)
            have hlk := hfk.out.lim
            have hi1 : (k : Int) < (x.length : Int) := by omega
            have hi0 : (0 : Int) ≤ (k : Int) := Int.natCast_nonneg _
            have FK := Lib.hid (show FitIn w Ak ck x[k] from ⟨q1, q2⟩)
            have FO := Lib.hid (show FitIn w C e other from ⟨hce, HO.out⟩)
            have SA := Lib.hid (swap_at g other x 0 k hlt)
            have ST := Lib.hid (List.take_succ_eq_append_getElem (l := swapL g other 0 x) (i := k) (by rw [swap_len]; exact hlt))
            clear q0 hall
            go_wp2_with fail
            refine (rright_any x[k] Ak ck _ (q2.below (below_then HB2.out hBw)) hfk.out.text hfk.out.lim).mono ?_
            rintro e' w4 ⟨rfl, hb4⟩
            have hB4 := below_then hBw hb4
            have q0'' := cell_below hb4 q0'
            have hrow4 := Lib.hid (row_below hrow.out (below_then hB3 hb4))
            clear q0' hb4 hBw hB3 hrow
            cases hq : asksB g (k : Int)
            · by_cases hn : 0 < x[k].length
              · by_cases he : (rightE x[k]).1 = 0
                · have SK := Lib.hid (show (swapL g other 0 x).take (k + 1) = (swapL g other 0 x).take k ++ [other] by rw [ST.out, SA.out, Nat.zero_add, if_neg (fun h => h.elim (fun h => by rw [hq] at h; cases h) (fun h => h.2 he))])
                  have hn0 : (0 : Int) < (x[k].length : Int) := by omega
                  have he0 : ((rightE x[k]).1 != 0) = false := by rw [bne_eq_false_iff_eq]; exact he
                  clear ST SA hq he FK
                  generalize (rightE x[k]).1 = E at *
                  generalize x[k].length = n at *
                  have hc0 : (w4.alloc (.cells #[.slice C other.length e] 22)).cell? ⟨w4.heap.size, 0, none⟩ = some (.slice C other.length e) := by go_cell
                  have HC := Lib.hid hc0
                  clear hc0
                  go_wp2_with (at_builtin; refine wpList_app _ rfl (.tmp 89) (.tmp 91) _ rfl w2.heap.size _ i0 _ 1 24 Tryd.underlying29 hi hz0 hz1 hz2 rfl ?a1 (.slice A' k c') k vs rfl ?a2 (some ⟨w4.heap.size, 0, none⟩) 1 1 [.slice C other.length e] rfl ?a3 ?a4 ?a5 ?a6 ?a7)
                  case a1 => omega
                  case a2 => exact hrow4.out.alloc _
                  case a3 => exact Src.slice1 HC.out rfl
                  case a4 => simp only [maxLen]; omega
                  case a5 => omega
                  case a6 => rw [World.size_alloc]; have := hB4.size; omega
                  case a7 =>
                    intro v5 w5 hown5 hg5 hat5
                    obtain ⟨A5, c5, rfl⟩ := row_slice hown5
                    have hB5 : Below w2.heap.size w2 w5 := (below_alloc' hB4 _).grown hg5 (below_alloc' hB4 _).size (fun q hq => row_base hrow4.out q hq)
                    have hE5 : Each (FitIn w) (vs ++ [.slice C other.length e]) ((swapL g other 0 x).take (k + 1)) := by
                      rw [SK.out]; exact hE.out.snoc FO.out
                    have HE5 := Lib.hid hE5
                    have HO5 := Lib.hid hown5
                    clear hE5 hown5 hg5 hat5
                    go_wp2
                    go_roundw
                    case rel => exact ⟨k + 1, A5, c5, _, by omega, by go_num, rfl, HO5, HE5, hB5⟩
                    case measure => simp [intOf]; omega
                · have SK := Lib.hid (show (swapL g other 0 x).take (k + 1) = (swapL g other 0 x).take k ++ [x[k]] by rw [ST.out, SA.out, if_pos (.inr ⟨hn, he⟩)])
                  have hn0 : (0 : Int) < (x[k].length : Int) := by omega
                  have he0 : ((rightE x[k]).1 != 0) = true := by rw [bne_iff_ne]; exact he
                  clear ST SA hq he FO
                  generalize (rightE x[k]).1 = E at *
                  have hc0 : (w4.alloc (.cells #[.slice Ak x[k].length ck] 22)).cell? ⟨w4.heap.size, 0, none⟩ = some (.slice Ak x[k].length ck) := by go_cell
                  have HC := Lib.hid hc0
                  clear hc0
                  go_wp2_with (at_builtin; refine wpList_app _ rfl (.tmp 82) (.tmp 87) _ rfl w2.heap.size _ i0 _ 1 24 Tryd.underlying29 hi hz0 hz1 hz2 rfl ?a1 (.slice A' k c') k vs rfl ?a2 (some ⟨w4.heap.size, 0, none⟩) 1 1 [.slice Ak x[k].length ck] rfl ?a3 ?a4 ?a5 ?a6 ?a7)
                  case a1 => omega
                  case a2 => exact hrow4.out.alloc _
                  case a3 => exact Src.slice1 HC.out rfl
                  case a4 => simp only [maxLen]; omega
                  case a5 => omega
                  case a6 => rw [World.size_alloc]; have := hB4.size; omega
                  case a7 =>
                    intro v5 w5 hown5 hg5 hat5
                    obtain ⟨A5, c5, rfl⟩ := row_slice hown5
                    have hB5 : Below w2.heap.size w2 w5 := (below_alloc' hB4 _).grown hg5 (below_alloc' hB4 _).size (fun q hq => row_base hrow4.out q hq)
                    have hE5 : Each (FitIn w) (vs ++ [.slice Ak x[k].length ck]) ((swapL g other 0 x).take (k + 1)) := by
                      rw [SK.out]; exact hE.out.snoc FK.out
                    have HE5 := Lib.hid hE5
                    have HO5 := Lib.hid hown5
                    clear hE5 hown5 hg5 hat5
                    go_wp2
                    go_roundw
                    case rel => exact ⟨k + 1, A5, c5, _, by omega, by go_num, rfl, HO5, HE5, hB5⟩
                    case measure => simp [intOf]; omega
              · have SK := Lib.hid (show (swapL g other 0 x).take (k + 1) = (swapL g other 0 x).take k ++ [other] by rw [ST.out, SA.out, Nat.zero_add, if_neg (fun h => h.elim (fun h => by rw [hq] at h; cases h) (fun h => hn h.1))])
                have hn0 : ¬ (0 : Int) < (x[k].length : Int) := by omega
                have hnd : decide ((0 : Int) < (x[k].length : Int)) = false := decide_eq_false hn0
                clear ST SA hq FK
                generalize (rightE x[k]).1 = E at *
                generalize x[k].length = n at *
                have hc0 : (w4.alloc (.cells #[.slice C other.length e] 22)).cell? ⟨w4.heap.size, 0, none⟩ = some (.slice C other.length e) := by go_cell
                have HC := Lib.hid hc0
                clear hc0
                go_wp2_with (at_builtin; refine wpList_app _ rfl (.tmp 89) (.tmp 91) _ rfl w2.heap.size _ i0 _ 1 24 Tryd.underlying29 hi hz0 hz1 hz2 rfl ?a1 (.slice A' k c') k vs rfl ?a2 (some ⟨w4.heap.size, 0, none⟩) 1 1 [.slice C other.length e] rfl ?a3 ?a4 ?a5 ?a6 ?a7)
                case a1 => omega
                case a2 => exact hrow4.out.alloc _
                case a3 => exact Src.slice1 HC.out rfl
                case a4 => simp only [maxLen]; omega
                case a5 => omega
                case a6 => rw [World.size_alloc]; have := hB4.size; omega
                case a7 =>
                  intro v5 w5 hown5 hg5 hat5
                  obtain ⟨A5, c5, rfl⟩ := row_slice hown5
                  have hB5 : Below w2.heap.size w2 w5 := (below_alloc' hB4 _).grown hg5 (below_alloc' hB4 _).size (fun q hq => row_base hrow4.out q hq)
                  have hE5 : Each (FitIn w) (vs ++ [.slice C other.length e]) ((swapL g other 0 x).take (k + 1)) := by
                    rw [SK.out]; exact hE.out.snoc FO.out
                  have HE5 := Lib.hid hE5
                  have HO5 := Lib.hid hown5
                  clear hE5 hown5 hg5 hat5
                  go_wp2
                  go_roundw
                  case rel => exact ⟨k + 1, A5, c5, _, by omega, by go_num, rfl, HO5, HE5, hB5⟩
                  case measure => simp [intOf]; omega
            · have SK := Lib.hid (show (swapL g other 0 x).take (k + 1) = (swapL g other 0 x).take k ++ [x[k]] by rw [ST.out, SA.out, Nat.zero_add, if_pos (.inl hq)])
              clear ST SA hq FO
              generalize (rightE x[k]).1 = E at *
              have hc0 : (w4.alloc (.cells #[.slice Ak x[k].length ck] 22)).cell? ⟨w4.heap.size, 0, none⟩ = some (.slice Ak x[k].length ck) := by go_cell
              have HC := Lib.hid hc0
              clear hc0
              go_wp2_with (at_builtin; refine wpList_app _ rfl (.tmp 82) (.tmp 87) _ rfl w2.heap.size _ i0 _ 1 24 Tryd.underlying29 hi hz0 hz1 hz2 rfl ?a1 (.slice A' k c') k vs rfl ?a2 (some ⟨w4.heap.size, 0, none⟩) 1 1 [.slice Ak x[k].length ck] rfl ?a3 ?a4 ?a5 ?a6 ?a7)
              case a1 => omega
              case a2 => exact hrow4.out.alloc _
              case a3 => exact Src.slice1 HC.out rfl
              case a4 => simp only [maxLen]; omega
              case a5 => omega
              case a6 => rw [World.size_alloc]; have := hB4.size; omega
              case a7 =>
                intro v5 w5 hown5 hg5 hat5
                obtain ⟨A5, c5, rfl⟩ := row_slice hown5
                have hB5 : Below w2.heap.size w2 w5 := (below_alloc' hB4 _).grown hg5 (below_alloc' hB4 _).size (fun q hq => row_base hrow4.out q hq)
                have hE5 : Each (FitIn w) (vs ++ [.slice Ak x[k].length ck]) ((swapL g other 0 x).take (k + 1)) := by
                  rw [SK.out]; exact hE.out.snoc FK.out
                have HE5 := Lib.hid hE5
                have HO5 := Lib.hid hown5
                clear hE5 hown5 hg5 hat5
                go_wp2
                go_roundw
                case rel => exact ⟨k + 1, A5, c5, _, by omega, by go_num, rfl, HO5, HE5, hB5⟩
                case measure => simp [intOf]; omega
      · obtain rfl : k = x.length := by omega
        have hE2 := hE.out
        rw [List.take_of_length_le (by rw [swap_len]; omega)] at hE2
        have hBw := below_then HB2.out hB
        have hR2 := Reads2.of_row (rest := []) (by rw [List.append_nil]; exact hrow.out) (hE2.mono (Q := fun A c l => l.length ≤ c ∧ Reads wr A l) fun _ _ _ p => ⟨p.1, p.2.below hBw⟩) (fun _ _ _ p => p)
        have HR2 := Lib.hid hR2
        have HFY := Lib.hid (swap_fine (g := g) HFX.out HFO.out)
        have HSL := Lib.hid (swap_len g other x 0)
        clear hE2 hR2 hE hrow
        go_wp2_with fail
        refine (gHolds_any g x A B c d _ (HR.out.below hBw) HF.out (HX.out.below hBw) HFX.out hl (Utf8Tabs_below HT.out hBw)).mono ?_
        rintro e' w6 ⟨rfl, hb6⟩
        have hB6 := below_then hBw hb6
        go_wp2_with fail
        refine (gHolds_len x.length g (swapL g other 0 x) HSL.out A A' c c' _ (HR.out.below hB6) HF.out (HR2.out.below hb6) HFY.out (by rw [HSL.out]; exact hl) (Utf8Tabs_below HT.out hB6)).mono ?_
        rintro e' w7 ⟨rfl, hb7⟩
        rw [HSH.out]
        have hB7 := below_then hB6 hb7
        clear hb6 hb7 hB6
        generalize (holdsE g x).1 = p1 at *
        generalize (holdsE g x).2 = p2 at *
        go_wp2_with fail
        refine (known9_any _ (Utf8Tabs_below HT.out hB7)).mono ?_
        rintro e' w8 ⟨rfl, hb8⟩
        go_wp2
        go_ret
        exact ⟨rfl, below_then hB7 hb8⟩
  · have hn0 : ¬ (0 : Int) < (other.length : Int) := by omega
    have hn1 : decide ((0 : Int) < (other.length : Int)) = false := decide_eq_false hn0
    clear hbad h16
    generalize (rightE other).1 = E1 at *
    go_wp2_with fail
    refine (asks_any g A c _ HG1.out hlg).mono ?_
    rintro e' w2 ⟨A2, c2, rfl, hI2, hb2⟩
    have hB2 := below_then hB1 hb2
    have HB2 := Lib.hid hB2
    have HI := Lib.hid hI2
    have hlen := asks_len g
    clear hI2 hb2 hB1 hB2 HG1
    go_wp2_with fail
    go_loopw [10, 11] (fun v i wr => ∃ (k : Nat) (A' : Option Addr) (c' : Nat) (vs : List Value), k ≤ x.length ∧ i = .int .i64 k ∧ v = .slice A' k c' ∧ Hid (wr.ownsRow w2.heap.size 22 1 (.slice A' k c') k vs) ∧ Hid (Each (FitIn w) vs ((swapL g other 0 x).take k)) ∧ Below w2.heap.size w2 wr) (fun v i wr => x.length - (intOf i).toNat)
    case atStart => exact ⟨0, none, 0, [], Nat.zero_le _, rfl, rfl, row_nil _ _ _ _, by rw [List.take_zero]; exact Each.nil, Below.refl _ _⟩
    case round =>
      obtain ⟨k, A', c', vs, hk, rfl, rfl, hrow, hE, hB⟩ := hrel
      by_cases hlt : k < x.length
      · obtain ⟨wo, hwo⟩ : ∃ wo : World, wo = wr := ⟨_, rfl⟩
        subst hwo
        go_wp2_with fail
        go_loopw [12, 13] (fun m i w3 => ∃ j : Nat, j ≤ (asksD g).length ∧ i = .int .i64 j ∧ m = .bool (((asksD g).take j).any fun v => decide (v = (k : Int))) ∧ Below wo.heap.size wo w3) (fun m i w3 => (asksD g).length - (intOf i).toNat)
        case atStart => exact ⟨0, Nat.zero_le _, rfl, rfl, Below.refl _ _⟩
        case round =>
          obtain ⟨j, hj, rfl, rfl, hB3⟩ := hrel
          have hBw := below_then hB hB3
          by_cases hlj : j < (asksD g).length
          · obtain ⟨g2, hA2, hcg⟩ := (HI.out.below hBw).cells hlj
            subst hA2
            have S := Lib.hid (asked_snoc hlj (k : Int))
            have hi1 : (j : Int) < ((asksD g).length : Int) := by omega
            have hi0 : (0 : Int) ≤ (j : Int) := Int.natCast_nonneg _
            generalize (asksD g)[j] = v at *
            cases hb : ((asksD g).take j).any fun v => decide (v = (k : Int))
            · rw [hb] at S
              by_cases hv : v = k
              · have e1 : (v == (k : Int)) = true := by simp [hv]
                have F := Lib.hid (show ((asksD g).take (j + 1)).any (fun v => decide (v = (k : Int))) = true by rw [S.out]; simp [hv])
                clear hv S hb
                go_wp2
                go_roundw
                case rel => exact ⟨j + 1, by omega, by go_num, by rw [F.out], hB3⟩
                case measure => simp [intOf]; omega
              · have e1 : (v == (k : Int)) = false := beq_eq_false_iff_ne.2 hv
                have F := Lib.hid (show ((asksD g).take (j + 1)).any (fun v => decide (v = (k : Int))) = false by rw [S.out]; simp [hv])
                clear hv S hb
                go_wp2
                go_roundw
                case rel => exact ⟨j + 1, by omega, by go_num, by rw [F.out], hB3⟩
                case measure => simp [intOf]; omega
            · have F := Lib.hid (show ((asksD g).take (j + 1)).any (fun v => decide (v = (k : Int))) = true by rw [S.out, hb]; rfl)
              clear S hb
              go_wp2
              go_roundw
              case rel => exact ⟨j + 1, by omega, by go_num, by rw [F.out], hB3⟩
              case measure => simp [intOf]; omega
          · have hall : ((asksD g).take j).any (fun v => decide (v = (k : Int))) = asksB g (k : Int) := by rw [List.take_of_length_le (by omega)]; exact asked_all (by omega)
            rw [hall]
            obtain ⟨b, o, hA, Ak, ck, q0, q1, q2⟩ := HX.out k hlt
            subst hA
            have q0' := cell_below (below_then HB2.out hBw) q0
            have hfk := Lib.hid (HFX.out k hlt)
            have hlk := hfk.out.lim
            have hi1 : (k : Int) < (x.length : Int) := by omega
            have hi0 : (0 : Int) ≤ (k : Int) := Int.natCast_nonneg _
            have FK := Lib.hid (show FitIn w Ak ck x[k] from ⟨q1, q2⟩)
            have FO := Lib.hid (show FitIn w C e other from ⟨hce, HO.out⟩)
            have SA := Lib.hid (swap_at g other x 0 k hlt)
            have ST := Lib.hid (List.take_succ_eq_append_getElem (l := swapL g other 0 x) (i := k) (by rw [swap_len]; exact hlt))
            clear q0 hall
            go_wp2_with fail
            refine (rright_any x[k] Ak ck _ (q2.below (below_then HB2.out hBw)) hfk.out.text hfk.out.lim).mono ?_
            rintro e' w4 ⟨rfl, hb4⟩
            have hB4 := below_then hBw hb4
            have q0'' := cell_below hb4 q0'
            have hrow4 := Lib.hid (row_below hrow.out (below_then hB3 hb4))
            clear q0' hb4 hBw hB3 hrow
            cases hq : asksB g (k : Int)
            · by_cases hn : 0 < x[k].length
              · by_cases he : (rightE x[k]).1 = 0
                · have SK := Lib.hid (show (swapL g other 0 x).take (k + 1) = (swapL g other 0 x).take k ++ [other] by rw [ST.out, SA.out, Nat.zero_add, if_neg (fun h => h.elim (fun h => by rw [hq] at h; cases h) (fun h => h.2 he))])
                  have hn0 : (0 : Int) < (x[k].length : Int) := by omega
                  have he0 : ((rightE x[k]).1 != 0) = false := by rw [bne_eq_false_iff_eq]; exact he
                  clear ST SA hq he FK
                  generalize (rightE x[k]).1 = E at *
                  generalize x[k].length = n at *
                  have hc0 : (w4.alloc (.cells #[.slice C other.length e] 22)).cell? ⟨w4.heap.size, 0, none⟩ = some (.slice C other.length e) := by go_cell
                  have HC := Lib.hid hc0
                  clear hc0
                  go_wp2_with (at_builtin; refine wpList_app _ rfl (.tmp 89) (.tmp 91) _ rfl w2.heap.size _ i0 _ 1 24 Tryd.underlying29 hi hz0 hz1 hz2 rfl ?a1 (.slice A' k c') k vs rfl ?a2 (some ⟨w4.heap.size, 0, none⟩) 1 1 [.slice C other.length e] rfl ?a3 ?a4 ?a5 ?a6 ?a7)
                  case a1 => omega
                  case a2 => exact hrow4.out.alloc _
                  case a3 => exact Src.slice1 HC.out rfl
                  case a4 => simp only [maxLen]; omega
                  case a5 => omega
                  case a6 => rw [World.size_alloc]; have := hB4.size; omega
                  case a7 =>
                    intro v5 w5 hown5 hg5 hat5
                    obtain ⟨A5, c5, rfl⟩ := row_slice hown5
                    have hB5 : Below w2.heap.size w2 w5 := (below_alloc' hB4 _).grown hg5 (below_alloc' hB4 _).size (fun q hq => row_base hrow4.out q hq)
                    have hE5 : Each (FitIn w) (vs ++ [.slice C other.length e]) ((swapL g other 0 x).take (k + 1)) := by
                      rw [SK.out]; exact hE.out.snoc FO.out
                    have HE5 := Lib.hid hE5
                    have HO5 := Lib.hid hown5
                    clear hE5 hown5 hg5 hat5
                    go_wp2
                    go_roundw
                    case rel => exact ⟨k + 1, A5, c5, _, by omega, by go_num, rfl, HO5, HE5, hB5⟩
                    case measure => simp [intOf]; omega
                · have SK := Lib.hid (show (swapL g other 0 x).take (k + 1) = (swapL g other 0 x).take k ++ [x[k]] by rw [ST.out, SA.out, if_pos (.inr ⟨hn, he⟩)])
                  have hn0 : (0 : Int) < (x[k].length : Int) := by omega
                  have he0 : ((rightE x[k]).1 != 0) = true := by rw [bne_iff_ne]; exact he
                  clear ST SA hq he FO
                  generalize (rightE x[k]).1 = E at *
                  have hc0 : (w4.alloc (.cells #[.slice Ak x[k].length ck] 22)).cell? ⟨w4.heap.size, 0, none⟩ = some (.slice Ak x[k].length ck) := by go_cell
                  have HC := Lib.hid hc0
                  clear hc0
                  go_wp2_with (at_builtin; refine wpList_app _ rfl (.tmp 82) (.tmp 87) _ rfl w2.heap.size _ i0 _ 1 24 Tryd.underlying29 hi hz0 hz1 hz2 rfl ?a1 (.slice A' k c') k vs rfl ?a2 (some ⟨w4.heap.size, 0, none⟩) 1 1 [.slice Ak x[k].length ck] rfl ?a3 ?a4 ?a5 ?a6 ?a7)
                  case a1 => omega
                  case a2 => exact hrow4.out.alloc _
                  case a3 => exact Src.slice1 HC.out rfl
                  case a4 => simp only [maxLen]; omega
                  case a5 => omega
                  case a6 => rw [World.size_alloc]; have := hB4.size; omega
                  case a7 =>
                    intro v5 w5 hown5 hg5 hat5
                    obtain ⟨A5, c5, rfl⟩ := row_slice hown5
                    have hB5 : Below w2.heap.size w2 w5 := (below_alloc' hB4 _).grown hg5 (below_alloc' hB4 _).size (fun q hq => row_base hrow4.out q hq)
                    have hE5 : Each (FitIn w) (vs ++ [.slice Ak x[k].length ck]) ((swapL g other 0 x).take (k + 1)) := by
                      rw [SK.out]; exact hE.out.snoc FK.out
                    have HE5 := Lib.hid hE5
                    have HO5 := Lib.hid hown5
                    clear hE5 hown5 hg5 hat5
                    go_wp2
                    go_roundw
                    case rel => exact ⟨k + 1, A5, c5, _, by omega, by go_num, rfl, HO5, HE5, hB5⟩
                    case measure => simp [intOf]; omega
              · have SK := Lib.hid (show (swapL g other 0 x).take (k + 1) = (swapL g other 0 x).take k ++ [other] by rw [ST.out, SA.out, Nat.zero_add, if_neg (fun h => h.elim (fun h => by rw [hq] at h; cases h) (fun h => hn h.1))])
                have hn0 : ¬ (0 : Int) < (x[k].length : Int) := by omega
                have hnd : decide ((0 : Int) < (x[k].length : Int)) = false := decide_eq_false hn0
                clear ST SA hq FK
                generalize (rightE x[k]).1 = E at *
                generalize x[k].length = n at *
                have hc0 : (w4.alloc (.cells #[.slice C other.length e] 22)).cell? ⟨w4.heap.size, 0, none⟩ = some (.slice C other.length e) := by go_cell
                have HC := Lib.hid hc0
                clear hc0
                go_wp2_with (at_builtin; refine wpList_app _ rfl (.tmp 89) (.tmp 91) _ rfl w2.heap.size _ i0 _ 1 24 Tryd.underlying29 hi hz0 hz1 hz2 rfl ?a1 (.slice A' k c') k vs rfl ?a2 (some ⟨w4.heap.size, 0, none⟩) 1 1 [.slice C other.length e] rfl ?a3 ?a4 ?a5 ?a6 ?a7)
                case a1 => omega
                case a2 => exact hrow4.out.alloc _
                case a3 => exact Src.slice1 HC.out rfl
                case a4 => simp only [maxLen]; omega
                case a5 => omega
                case a6 => rw [World.size_alloc]; have := hB4.size; omega
                case a7 =>
                  intro v5 w5 hown5 hg5 hat5
                  obtain ⟨A5, c5, rfl⟩ := row_slice hown5
                  have hB5 : Below w2.heap.size w2 w5 := (below_alloc' hB4 _).grown hg5 (below_alloc' hB4 _).size (fun q hq => row_base hrow4.out q hq)
                  have hE5 : Each (FitIn w) (vs ++ [.slice C other.length e]) ((swapL g other 0 x).take (k + 1)) := by
                    rw [SK.out]; exact hE.out.snoc FO.out
                  have HE5 := Lib.hid hE5
                  have HO5 := Lib.hid hown5
                  clear hE5 hown5 hg5 hat5
                  go_wp2
                  go_roundw
                  case rel => exact ⟨k + 1, A5, c5, _, by omega, by go_num, rfl, HO5, HE5, hB5⟩
                  case measure => simp [intOf]; omega
            · have SK := Lib.hid (show (swapL g other 0 x).take (k + 1) = (swapL g other 0 x).take k ++ [x[k]] by rw [ST.out, SA.out, Nat.zero_add, if_pos (.inl hq)])
              clear ST SA hq FO
              generalize (rightE x[k]).1 = E at *
              have hc0 : (w4.alloc (.cells #[.slice Ak x[k].length ck] 22)).cell? ⟨w4.heap.size, 0, none⟩ = some (.slice Ak x[k].length ck) := by go_cell
              have HC := Lib.hid hc0
              clear hc0
              go_wp2_with (at_builtin; refine wpList_app _ rfl (.tmp 82) (.tmp 87) _ rfl w2.heap.size _ i0 _ 1 24 Tryd.underlying29 hi hz0 hz1 hz2 rfl ?a1 (.slice A' k c') k vs rfl ?a2 (some ⟨w4.heap.size, 0, none⟩) 1 1 [.slice Ak x[k].length ck] rfl ?a3 ?a4 ?a5 ?a6 ?a7)
              case a1 => omega
              case a2 => exact hrow4.out.alloc _
              case a3 => exact Src.slice1 HC.out rfl
              case a4 => simp only [maxLen]; omega
              case a5 => omega
              case a6 => rw [World.size_alloc]; have := hB4.size; omega
              case a7 =>
                intro v5 w5 hown5 hg5 hat5
                obtain ⟨A5, c5, rfl⟩ := row_slice hown5
                have hB5 : Below w2.heap.size w2 w5 := (below_alloc' hB4 _).grown hg5 (below_alloc' hB4 _).size (fun q hq => row_base hrow4.out q hq)
                have hE5 : Each (FitIn w) (vs ++ [.slice Ak x[k].length ck]) ((swapL g other 0 x).take (k + 1)) := by
                  rw [SK.out]; exact hE.out.snoc FK.out
                have HE5 := Lib.hid hE5
                have HO5 := Lib.hid hown5
                clear hE5 hown5 hg5 hat5
                go_wp2
                go_roundw
                case rel => exact ⟨k + 1, A5, c5, _, by omega, by go_num, rfl, HO5, HE5, hB5⟩
                case measure => simp [intOf]; omega
      · obtain rfl : k = x.length := by omega
        have hE2 := hE.out
        rw [List.take_of_length_le (by rw [swap_len]; omega)] at hE2
        have hBw := below_then HB2.out hB
        have hR2 := Reads2.of_row (rest := []) (by rw [List.append_nil]; exact hrow.out) (hE2.mono (Q := fun A c l => l.length ≤ c ∧ Reads wr A l) fun _ _ _ p => ⟨p.1, p.2.below hBw⟩) (fun _ _ _ p => p)
        have HR2 := Lib.hid hR2
        have HFY := Lib.hid (swap_fine (g := g) HFX.out HFO.out)
        have HSL := Lib.hid (swap_len g other x 0)
        clear hE2 hR2 hE hrow
        go_wp2_with fail
        refine (gHolds_any g x A B c d _ (HR.out.below hBw) HF.out (HX.out.below hBw) HFX.out hl (Utf8Tabs_below HT.out hBw)).mono ?_
        rintro e' w6 ⟨rfl, hb6⟩
        have hB6 := below_then hBw hb6
        go_wp2_with fail
        refine (gHolds_len x.length g (swapL g other 0 x) HSL.out A A' c c' _ (HR.out.below hB6) HF.out (HR2.out.below hb6) HFY.out (by rw [HSL.out]; exact hl) (Utf8Tabs_below HT.out hB6)).mono ?_
        rintro e' w7 ⟨rfl, hb7⟩
        rw [HSH.out]
        have hB7 := below_then hB6 hb7
        clear hb6 hb7 hB6
        generalize (holdsE g x).1 = p1 at *
        generalize (holdsE g x).2 = p2 at *
        go_wp2_with fail
        refine (known9_any _ (Utf8Tabs_below HT.out hB7)).mono ?_
        rintro e' w8 ⟨rfl, hb8⟩
        go_wp2
        go_ret
        exact ⟨rfl, below_then hB7 hb8⟩
theorem guardHangs_row (A : Option Addr) (c : Nat) (g : List TestD) (B : Option Addr) (d : Nat) (x : List (List CellD)) (C : Option Addr) (e : Nat) (other : List CellD) (w : World) (hT : Tabs w) (hcg : g.length ≤ c) (hr : TReads w A g) (hf : FineT g) (hd : x.length ≤ d) (hx : Reads2 w B x) (hfx : Fine2 x) (hy : x.length * 24 ≤ 140737488351232)
    (hce : other.length ≤ e) (ho : Reads w C other) (hs : ∀ j (h : j < other.length), (other[j]).text.size ≤ 9223372036854775807) (hyo : other.length * 32 ≤ 140737488351232) :
    Calls Tryd.prog 11 #[.slice A g.length c, .slice B x.length d, .slice C other.length e] w fun e w' => e = .returned (.bool true) ∧ Below w.heap.size w w' :=
  guardHangs_any g x other A B C c d e w hr hf hx hfx ho ⟨hyo, hs⟩ hce (by omega) hT
end Go.Proofs.YtefpolgflimlgaaDoor.Tm
