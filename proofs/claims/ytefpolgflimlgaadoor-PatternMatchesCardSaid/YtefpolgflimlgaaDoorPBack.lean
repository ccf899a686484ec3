/- The law PatternBack. -/
import Derived.Test.YtefpolgflimlgaaDoorPatT
import Derived.Test.YtefpolgflimlgaaDoorPatO
namespace Go.Proofs.YtefpolgflimlgaaDoor.Tm
open Go.RowKit
set_option linter.unusedVariables false
set_option linter.unusedSimpArgs false

theorem regs_some {W : World} {base : Nat} {v : Value} {R : List (List CellD)} (h : RegsAt W base v R) (hn : R.length = 16) : ∃ og vs, v = .slice (some ⟨og, 0, none⟩) 16 16 ∧ Outs W base og vs R := by
  rcases h with ⟨rfl, _⟩ | ⟨og, vs, e, _, o⟩
  · cases hn
  · exact ⟨og, vs, e, o⟩
theorem regs_none {W : World} {base : Nat} {v : Value} (h : RegsAt W base v []) : v = .slice none 0 0 := by
  rcases h with ⟨_, e⟩ | ⟨_, _, _, h, _⟩
  · exact e
  · cases h
theorem match_nil {p t : List CellD} {x : List (List CellD)} (h : ¬ ((matchE p t x).2.1 = true ∧ (matchE p t x).2.2 = 0)) : (matchE p t x).1 = [] := by
  unfold matchE at h ⊢
  split
  · rfl
  · split
    · rfl
    · split
      · rfl
      · split
        · rfl
        · rename_i h1 h2 h3 h4
          rw [if_neg h1, if_neg h2, if_neg h3, if_neg h4] at h
          split
          · rfl
          · rename_i out e
            rw [e] at h
            exact absurd ⟨rfl, rfl⟩ h
theorem Fine.take {l : List CellD} (h : Fine l) (n : Nat) : Fine (l.take n) := ⟨by have := h.len; simp; omega, fun j hj => by rw [List.getElem_take]; exact h.text _ _⟩
theorem Fine.drop {l : List CellD} (h : Fine l) (n : Nat) : Fine (l.drop n) := ⟨by have := h.len; simp; omega, fun j hj => by rw [List.getElem_drop]; exact h.text _ _⟩
theorem Fine.tail {l : List CellD} (h : Fine l) : Fine l.tail := by rw [← List.drop_one]; exact h.drop 1
theorem fine2_set {ls : List (List CellD)} (h : Fine2 ls) {l : List CellD} (k : Fine l) (n : Nat) : Fine2 (ls.set n l) := fun j hj => by
  rw [List.getElem_set]
  split
  · exact k
  · exact h _ _
theorem fits_fine : ∀ (p t : List CellD) (x o out : List (List CellD)), fitsL p t x o = some out → Fine t → Fine2 o → Fine2 out
  | [], t, x, o, out, h, ht, ho => by rw [fitsL] at h; injection h with h; rw [← h]; exact ho
  | c :: p, t, x, o, out, h, ht, ho => by
    rw [fitsL] at h
    split at h
    · split at h
      · cases h
      · refine fits_fine p _ x _ out h (ht.drop _) ?_
        split
        · exact fine2_set ho (ht.take _) _
        · exact ho
    · split at h
      · exact fits_fine p _ x _ out h ht.tail ho
      · cases h
theorem regs16_fine {x : List (List CellD)} (h : Fine2 x) : Fine2 (regs16 x) := fun j hj => by
  simp only [regs16, List.getElem_map, List.getElem_range]
  exact reg_fine h _
theorem match_fine {p t : List CellD} {x : List (List CellD)} (m : (matchE p t x).2.1 = true ∧ (matchE p t x).2.2 = 0) (ht : Fine t) (hx : Fine2 x) : Fine2 (matchE p t x).1 := by
  obtain ⟨out, e, hf⟩ := match_some m
  rw [e]
  exact fits_fine p t x _ out hf ht (regs16_fine hx)
theorem reg_at {R : List (List CellD)} {j : Nat} (h : j < R.length) : regD R (j : Int) = R[j] := by
  rw [regD_nat (Int.natCast_nonneg _)]
  simp [List.getD_eq_getElem?_getD, List.getElem?_eq_getElem h]
theorem any_has {l : List Int} {n : Int} (h : (l.any fun k => k == n) = false) : n ∉ l := fun hn => by
  have k : (l.any fun k => k == n) = true := List.any_eq_true.2 ⟨n, hn, beq_self_eq_true n⟩
  rw [h] at k
  cases k
def NoAny (p : List CellD) (c : CellD) : Prop := c.kind ≠ 11 ∧ (c.kind = 13 → ∀ d ∈ p, d.kind = 12 → c.n ≠ d.n)
def Apart2 (y d : CellD) : Prop := y.kind = 13 → d.kind = 12 → y.n ≠ d.n
theorem all_snoc {P : CellD → Prop} {p : List CellD} {k : Nat} (h : k < p.length) (H : ∀ c ∈ p.take k, P c) (hk : P p[k]) : ∀ c ∈ p.take (k + 1), P c := by
  intro c hc
  rw [List.take_succ_eq_append_getElem h, List.mem_append] at hc
  rcases hc with hc | hc
  · exact H c hc
  · simp at hc; rw [hc]; exact hk
theorem ptoterm_at (p : List CellD) (x : List (List CellD)) (n : Nat) (hn : x.length = n) (A B : Option Addr) (c d : Nat) (w : World) (hr : Reads w A p) (hf : Fine p) (hx : Reads2 w B x) (fx : Fine2 x) (hc : p.length ≤ c) (hlx : x.length ≤ 1000000000000000) (hT : Tabs w) : Calls Tryd.prog 79 #[.slice A p.length c, .slice B n d] w (TermOwn w (toTermE p x)) := by
  subst hn
  exact ptoterm_any p x A B c d w hr hf hx fx hc hlx hT
theorem same_self_ (l : List CellD) : decide (l = l) = true := by simp
set_option maxRecDepth 100000 in
set_option maxHeartbeats 8000000 in
theorem patternBack_any (p t : List CellD) (x : List (List CellD)) (A B C : Option Addr) (cp ct cx : Nat) (w : World) (hp : Reads w A p) (fp : Fine p) (ht : Reads w B t) (ft : Fine t) (hx : Reads2 w C x) (fx : Fine2 x) (hc : p.length ≤ cp) (hct : t.length ≤ ct) (hlx : x.length ≤ 1000000000000000) (hT : Tabs w) :
    Calls Tryd.prog 16 #[.slice A p.length cp, .slice B t.length ct, .slice C x.length cx] w fun e w' => e = .returned (.bool true) ∧ Below w.heap.size w w' := by
  have hlp := fp.lim
  have hlt := ft.lim
  have n1 := named_len p 12
  have HP := Lib.hid hp
  have FP := Lib.hid fp
  have HB := Lib.hid ht
  have FT := Lib.hid ft
  have HX := Lib.hid hx
  have FX := Lib.hid fx
  have HT := Lib.hid hT
  clear hp fp ht ft hx fx hT
  go_enter Tryd.func16, Tryd.ntmps16
  go_wp2_with fail
  refine (pmatch_any p t x A B C cp ct cx _ HP.out FP.out HB.out FT.out HX.out FX.out hct hlx HT.out).mono ?_
  by_cases hm : (matchE p t x).2.1 = true ∧ (matchE p t x).2.2 = 0
  · have BL := Lib.hid (back_law hm)
    have FM := Lib.hid (match_fine hm FT.out FX.out)
    rintro e w1 ⟨v, rfl, hR, hB1⟩
    obtain ⟨og, vs, rfl, hO⟩ := regs_some hR BL.out.1
    rw [hm.1, hm.2]
    generalize (matchE p t x).1 = R at *
    have hRl := BL.out.1
    have HO1 := Lib.hid hO
    clear hO hR hm
    go_wp2_with fail
    go_loopw [45, 10, 11] (fun i n b wr => ∃ j : Nat, j ≤ 16 ∧ i = .int .i64 j ∧ Below w1.heap.size w1 wr) (fun i n b wr => 16 - (intOf i).toNat)
    case atStart => exact ⟨0, Nat.zero_le _, rfl, Below.refl _ _⟩
    case round =>
      obtain ⟨j, hj, rfl, hB⟩ := hrel
      have hBw := Lib.hid (below_then hB1 hB)
      by_cases hlt2 : j < 16
      · have hi1 : (j : Int) < 16 := by omega
        have hi0 : (0 : Int) ≤ (j : Int) := Int.natCast_nonneg _
        go_wp2_with fail
        refine (pbinds_any p A cp _ (HP.out.below hBw.out) hlp).mono ?_
        rintro e w2 ⟨A2, c2, rfl, hI, hb2⟩
        have hB2 := Lib.hid (below_then hB hb2)
        have HI := Lib.hid hI
        clear hI
        go_wp2_with fail
        go_loopw [11, 51] (fun b i wr2 => ∃ k : Nat, k ≤ (namedD p 12).length ∧ i = .int .i64 k ∧ b = .bool (((namedD p 12).take k).any fun m => m == (j : Int)) ∧ Below w2.heap.size w2 wr2) (fun b i wr2 => (namedD p 12).length - (intOf i).toNat)
        case atStart => exact ⟨0, Nat.zero_le _, rfl, rfl, Below.refl _ _⟩
        case round =>
          obtain ⟨k, hk, rfl, rfl, hB3⟩ := hrel
          by_cases hlt3 : k < (namedD p 12).length
          · obtain ⟨g, rfl, q0⟩ := (HI.out.below hB3).cells hlt3
            have S := any_snoc (f := fun m : Int => m == (j : Int)) hlt3
            have hk1 : (k : Int) < ((namedD p 12).length : Int) := by omega
            have hk0 : (0 : Int) ≤ (k : Int) := Int.natCast_nonneg _
            have S2 := Lib.hid S
            clear S
            generalize (namedD p 12)[k] = m at *
            cases hbd : (((namedD p 12).take k).any fun m => m == (j : Int)) with
            | true =>
              have S3 := Lib.hid (show (((namedD p 12).take (k + 1)).any fun m => m == (j : Int)) = true from by rw [S2.out, hbd]; rfl)
              clear S2 hbd
              go_wp2
              go_roundw
              case rel => exact ⟨k + 1, by omega, by go_num, by rw [S3.out], hB3⟩
              case measure => simp [intOf]; omega
            | false =>
              have S3 := Lib.hid (show (((namedD p 12).take (k + 1)).any fun m => m == (j : Int)) = (m == (j : Int)) from by rw [S2.out, hbd]; rfl)
              clear S2 hbd
              go_wp2
              go_roundw
              case rel => exact ⟨k + 1, by omega, by go_num, by rw [S3.out], hB3⟩
              case measure => simp [intOf]; omega
          · obtain rfl : k = (namedD p 12).length := by omega
            rw [List.take_length]
            have hB4 := Lib.hid (below_then hB2.out hB3)
            cases hbd : ((namedD p 12).any fun m => m == (j : Int)) with
            | true =>
              clear hbd
              go_wp2_with (go_quiet (fail))
              go_roundw
              case rel => exact ⟨j + 1, by omega, by go_num, below_drewN hB4.out _⟩
              case measure => simp [intOf]; omega
            | false =>
              have hE := (BL.out.2.1 (j : Int) hi0 hi1 (any_has hbd))
              rw [reg_at (by omega)] at hE
              obtain ⟨Ay, cy, q0, hrow⟩ := (HO1.out.below hB4.out).cell (n := j) (by omega)
              rw [hE] at q0 hrow
              have HRY := Lib.hid hrow.reads.2
              have HXr := Lib.hid (HX.out.below (below_then hB1 hB4.out))
              have hlr := (reg_fine FX.out (j : Int)).lim
              clear hbd hE hrow hB hB3
              go_wp2_with fail
              go_region_held3 (fun w' => w'.cell? ⟨og, j, none⟩ = some (.slice Ay (regD x (j : Int)).length cy) ∧ Below wr.heap.size wr w')
                (first
                  | exact ⟨q0, (Below.refl _ _).drew⟩
                  | exact (fun hB' => ⟨cell_below hB' q0, hB'⟩) (below_then (by assumption) hbc)
                  | exact (fun hB' => ⟨cell_below hB' q0, hB'⟩) (below_then (Below.drew (by assumption)) hbc)
                  | go_keep)
                (first
                  | (go_at_call 65; go_split_ands; refine (reg_any x (j : Int) C cx _ (HXr.out.below (by assumption)) hlx).mono ?_; rintro e wc ⟨A5, c5, rfl, hc5, hR5, hbc⟩)
                  | (go_at_call 26; go_split_ands; refine (rsame_any Ay A5 cy c5 _ _ _ (HRY.out.below (by assumption)) hR5 hlr hlr).mono ?_; rintro e wc ⟨rfl, hbc⟩; rw [same_self_]))
              have hBe : Below wr.heap.size wr wc := below_then (by assumption) hbc
              have hBf := Lib.hid (below_then hB4.out hBe)
              go_wp2
              go_roundw
              case rel => exact ⟨j + 1, by omega, by go_num, hBf.out⟩
              case measure => simp [intOf]; omega
      · have HBq := hBw
        have HB1q := Lib.hid hB
        clear hBw hB
        go_wp2_with fail
        go_loopw [78] (fun i wr3 => ∃ k : Nat, k ≤ p.length ∧ i = .int .i64 k ∧ Below w.heap.size w wr3 ∧ Below w1.heap.size w1 wr3 ∧ Hid (∀ c ∈ p.take k, NoAny p c)) (fun i wr3 => p.length - (intOf i).toNat)
        case atStart => exact ⟨0, Nat.zero_le _, rfl, HBq.out, HB1q.out, fun c hc => by simp at hc⟩
        case round =>
          obtain ⟨k, hk, rfl, hB, hB1r, hN⟩ := hrel
          by_cases hlt3 : k < p.length
          · obtain ⟨b, o, hA, htc⟩ := HP.out k hlt3
            subst hA
            obtain ⟨q0, q1, q2⟩ := htc.below hB
            have hk1 : (k : Int) < (p.length : Int) := by omega
            have hk0 : (0 : Int) ≤ (k : Int) := Int.natCast_nonneg _
            have ST := Lib.hid (fun (h : NoAny p p[k]) => all_snoc hlt3 hN.out h)
            generalize p[k] = y at *
            clear htc hN
            have HBa := Lib.hid (below_alloc' hB (.cells #[.int .i64 y.kind, .int .i64 y.n, .string y.text] 95))
            have HBb := Lib.hid (below_alloc' hB1r (.cells #[.int .i64 y.kind, .int .i64 y.n, .string y.text] 95))
            by_cases k11 : y.kind = 11
            · have e11 : (y.kind == 11) = true := by simp [k11]
              clear k11
              go_wp2_with fail
              refine (awake8_any _ (Utf8Tabs_below HT.out HBa.out)).mono ?_
              rintro e w9 ⟨rfl, hb9⟩
              go_wp2
              go_ret
              exact ⟨rfl, below_then HBa.out hb9⟩
            · have e11 : (y.kind == 11) = false := beq_eq_false_iff_ne.2 k11
              have K11 := Lib.hid k11
              have c0 : (wr.alloc (.cells #[.int .i64 y.kind, .int .i64 y.n, .string y.text] 95)).cell? ⟨wr.heap.size, 0, none⟩ = some (.int .i64 y.kind) := by go_cell
              have c1 : (wr.alloc (.cells #[.int .i64 y.kind, .int .i64 y.n, .string y.text] 95)).cell? ⟨wr.heap.size, 1, none⟩ = some (.int .i64 y.n) := by go_cell
              clear k11
              go_wp2_with fail
              generalize wr.alloc (.cells #[.int .i64 y.kind, .int .i64 y.n, .string y.text] 95) = W1 at *
              generalize wr.heap.size = ob at *
              go_loopw [88] (fun i wr4 => ∃ m : Nat, m ≤ p.length ∧ i = .int .i64 m ∧ Below W1.heap.size W1 wr4 ∧ Hid (∀ d ∈ p.take m, Apart2 y d)) (fun i wr4 => p.length - (intOf i).toNat)
              case atStart => exact ⟨0, Nat.zero_le _, rfl, Below.refl _ _, fun c hc => by simp at hc⟩
              case round =>
                obtain ⟨m, hm, rfl, hB5, hN5⟩ := hrel
                have hB6 := Lib.hid (below_then HBa.out hB5)
                have hB7 := Lib.hid (below_then HBb.out hB5)
                by_cases hlt4 : m < p.length
                · obtain ⟨b', o', hA', htc'⟩ := HP.out m hlt4
                  obtain ⟨rfl, rfl⟩ : b = b' ∧ o = o' := by simpa using hA'
                  obtain ⟨r0, r1, r2⟩ := htc'.below hB6.out
                  have hm1 : (m : Int) < (p.length : Int) := by omega
                  have hm0 : (0 : Int) ≤ (m : Int) := Int.natCast_nonneg _
                  have ST2 := Lib.hid (fun (h : Apart2 y p[m]) => all_snoc hlt4 hN5.out h)
                  generalize p[m] = z at *
                  have d0 := cell_below (below_one wr (.cells #[.int .i64 z.kind, .int .i64 z.n, .string z.text] 95)) (cell_below hB5 c0)
                  have d1 := cell_below (below_one wr (.cells #[.int .i64 z.kind, .int .i64 z.n, .string z.text] 95)) (cell_below hB5 c1)
                  have HBc := Lib.hid (below_alloc' hB6.out (.cells #[.int .i64 z.kind, .int .i64 z.n, .string z.text] 95))
                  have HBd := Lib.hid (below_alloc' hB5 (.cells #[.int .i64 z.kind, .int .i64 z.n, .string z.text] 95))
                  clear htc' hN5 hA'
                  by_cases k13 : y.kind = 13
                  · have e13 : (y.kind == 13) = true := by simp [k13]
                    by_cases k12 : z.kind = 12
                    · have e12 : (z.kind == 12) = true := by simp [k12]
                      by_cases kn : y.n = z.n
                      · have en : (y.n == z.n) = true := by simp [kn]
                        clear k13 k12 kn
                        go_wp2_with fail
                        refine (awake8_any _ (Utf8Tabs_below HT.out HBc.out)).mono ?_
                        rintro e w9 ⟨rfl, hb9⟩
                        go_wp2
                        go_ret
                        exact ⟨rfl, below_then HBc.out hb9⟩
                      · have en : (y.n == z.n) = false := beq_eq_false_iff_ne.2 kn
                        have F := Lib.hid (ST2.out fun _ _ => kn)
                        clear k13 k12 kn
                        go_wp2
                        go_roundw
                        case rel => exact ⟨m + 1, by omega, by go_num, HBd.out, F⟩
                        case measure => simp [intOf]; omega
                    · have e12 : (z.kind == 12) = false := beq_eq_false_iff_ne.2 k12
                      have F := Lib.hid (ST2.out fun _ h => absurd h k12)
                      clear k13 k12
                      go_wp2
                      go_roundw
                      case rel => exact ⟨m + 1, by omega, by go_num, HBd.out, F⟩
                      case measure => simp [intOf]; omega
                  · have e13 : (y.kind == 13) = false := beq_eq_false_iff_ne.2 k13
                    have F := Lib.hid (ST2.out fun h _ => absurd h k13)
                    clear k13
                    go_wp2
                    go_roundw
                    case rel => exact ⟨m + 1, by omega, by go_num, HBd.out, F⟩
                    case measure => simp [intOf]; omega
                · have G := hN5.out
                  rw [List.take_of_length_le (by omega)] at G
                  have F := Lib.hid (ST.out ⟨K11.out, fun h d hd e => G d hd h e⟩)
                  clear G hN5
                  go_wp2
                  go_roundw
                  case rel => exact ⟨k + 1, by omega, by go_num, hB6.out, hB7.out, F⟩
                  case measure => simp [intOf]; omega
          · have G := hN.out
            rw [List.take_of_length_le (by omega)] at G
            have TT := Lib.hid (BL.out.2.2 (fun c hc => (G c hc).1) (fun c hc => (G c hc).2))
            clear G hN
            go_wp2_with fail
            refine (ptoterm_at p R 16 hRl A (some ⟨og, 0, none⟩) cp 16 _ (HP.out.below hB) FP.out (HO1.out.below hB1r).reads FM.out hc (by omega) (Utf8Tabs_below HT.out hB)).mono ?_
            rw [TT.out]
            rintro e w4 ⟨A4, c4, rfl, hO4, hb4⟩
            have hB4 := below_then hB hb4
            have HO4 := Lib.hid hO4
            clear hO4
            go_wp2_with fail
            refine (rsame_any A4 B c4 ct t t _ (Reads.of_row HO4.out) (HB.out.below hB4) hlt hlt).mono ?_
            rintro e w5 ⟨rfl, hb5⟩
            rw [same_self_]
            have hB5 := below_then hB4 hb5
            go_wp2_with fail
            refine (awake8_any _ (Utf8Tabs_below HT.out hB5)).mono ?_
            rintro e w9 ⟨rfl, hb9⟩
            go_wp2
            go_ret
            exact ⟨rfl, below_then hB5 hb9⟩
  · have hm' := hm
    have MN := match_nil hm
    unfold MatchPost
    rw [MN]
    clear MN
    generalize (matchE p t x).2.1 = mb at *
    generalize (matchE p t x).2.2 = mk at *
    rintro e w1 ⟨v, rfl, hR, hB1⟩
    obtain rfl := regs_none hR
    clear hR hm
    by_cases ek : mk = 0
    · subst ek
      have eb : mb = false := by simpa using hm'
      subst eb
      clear hm'
      go_wp2_with fail
      refine (awake8_any _ (Utf8Tabs_below HT.out hB1)).mono ?_
      rintro e w9 ⟨rfl, hb9⟩
      go_wp2
      go_ret
      exact ⟨rfl, below_then hB1 hb9⟩
    · have te : (mk != 0) = true := by rw [bne_iff_ne]; exact ek
      clear hm' ek
      go_wp2_with fail
      refine (awake8_any _ (Utf8Tabs_below HT.out hB1)).mono ?_
      rintro e w9 ⟨rfl, hb9⟩
      go_wp2
      go_ret
      exact ⟨rfl, below_then hB1 hb9⟩
theorem patternBack_row (A : Option Addr) (c : Nat) (p : List CellD) (B : Option Addr) (d : Nat) (t : List CellD) (C : Option Addr) (cx : Nat) (x : List (List CellD)) (w : World) (hT : Tabs w) (h1 : p.length ≤ c) (hp : Reads w A p) (s1 : ∀ j (h : j < p.length), (p[j]).text.size ≤ 9223372036854775807) (y1 : p.length * 32 ≤ 140737488351232)
    (h2 : t.length ≤ d) (ht : Reads w B t) (s2 : ∀ j (h : j < t.length), (t[j]).text.size ≤ 9223372036854775807) (y2 : t.length * 32 ≤ 140737488351232) (h5 : x.length ≤ cx) (hx : Reads2 w C x) (fx : Fine2 x) (y5 : x.length * 24 ≤ 140737488351232) :
    Calls Tryd.prog 16 #[.slice A p.length c, .slice B t.length d, .slice C x.length cx] w fun e w' => e = .returned (.bool true) ∧ Below w.heap.size w w' :=
  patternBack_any p t x A B C c d cx w hp ⟨y1, s1⟩ ht ⟨y2, s2⟩ hx fx h1 h2 (by omega) hT
end Go.Proofs.YtefpolgflimlgaaDoor.Tm
