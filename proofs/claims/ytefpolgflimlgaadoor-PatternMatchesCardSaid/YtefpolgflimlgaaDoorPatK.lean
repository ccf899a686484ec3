/- Layer 8's law: copies of patterns, lists of numbers; its fixed call. -/
import Derived.Test.YtefpolgflimlgaaDoorMatch
namespace Go.Proofs.YtefpolgflimlgaaDoor.Tm
open Go.RowKit
set_option linter.unusedVariables false
set_option linter.unusedSimpArgs false
attribute [local go_sem ↓] Go.wp_at_zero Go.wp_at_succ

theorem pat_info : (Tryd.prog.info? 95).map (fun i => (i.zero, i.size, i.bytes)) = some (some (.agg #[.int .i64 0, .int .i64 0, .string ⟨#[]⟩]), 3, 32) := by kernel_rfl
/-- A lent copy of a pattern. -/
structure PLentAt (w : World) (base : Nat) (A : Option Addr) (cap : Nat) (l : List CellD) : Prop where
  row : w.ownsRow base 95 3 (.slice A (l.length + 1) cap) (l.length + 1) (encs (l ++ [markC]))
theorem PLentAt.reads2 {w : World} {base cap : Nat} {A : Option Addr} {l : List CellD} (h : PLentAt w base A cap l) : Reads w A (l ++ [markC]) :=
  Reads.of_row (base := base) (cap := cap) (e := 95) (by simpa using h.row)
theorem PLentAt.reads {w : World} {base cap : Nat} {A : Option Addr} {l : List CellD} (h : PLentAt w base A cap l) : Reads w A l := by
  have := h.reads2.take l.length
  simpa using this
theorem PLentAt.below {w W : World} {base cap : Nat} {A : Option Addr} {l : List CellD} (h : PLentAt w base A cap l) (hB : Below w.heap.size w W) : PLentAt W base A cap l := ⟨row_below h.row hB⟩
theorem PLentAt.lenCap {w : World} {base cap : Nat} {A : Option Addr} {l : List CellD} (h : PLentAt w base A cap l) : l.length + 1 ≤ cap := row_cap h.row
set_option maxHeartbeats 1000000 in
theorem plent_any (l : List CellD) (A : Option Addr) (cap : Nat) (w : World) (hr : Reads w A l) (hl : (l.length + 1) * 32 ≤ 140737488355328) :
    Calls Tryd.prog 57 #[.slice A l.length cap] w fun e w' => ∃ A' cap', e = .returned (.slice A' l.length cap') ∧ PLentAt w' w.heap.size A' cap' l ∧ Below w.heap.size w w' := by
  obtain ⟨i0, hi, hz0, hz1, hz2⟩ := info_parts pat_info
  have hS := Lib.hid (Src.of_reads hr)
  clear hr
  go_enter Tryd.func57, Tryd.ntmps57
  go_wp2_with (first
    | (at_builtin
       refine wpList_app _ rfl (.tmp 4) (.tmp 5) _ rfl w.heap.size _ i0 _ 3 32 Tryd.underlying67 hi hz0 hz1 hz2 rfl (by omega) (.slice none 0 0) 0 [] rfl (row_nil _ _ _ _) A l.length cap (encs l) rfl hS.out (by simp only [maxLen]; omega) (by omega) (Nat.le_refl _) ?_
       intro v1 w1 hown1 hg1 hat1
       rw [Nat.zero_add, List.nil_append] at hown1
       have hB1 : Below w.heap.size w w1 := (Below.refl _ _).grown hg1 (Nat.le_refl _) (by simp [Value.ownBlock])
       have hsz1 := hB1.size
       obtain ⟨A1, c1, rfl⟩ := row_slice hown1)
    | (at_builtin
       refine wpList_app _ rfl (.tmp 7) (.tmp 9) _ rfl w.heap.size _ i0 _ 3 32 Tryd.underlying67 hi hz0 hz1 hz2 rfl (by omega) (.slice A1 l.length c1) l.length (encs l) rfl (hown1.alloc _) (some ⟨w1.heap.size, 0, none⟩) 1 1 (encs [markC]) rfl (Src.of_one (new_cell w1 markC _)) (by simp only [maxLen]; omega) (by omega) (by rw [World.size_alloc]; omega) ?_
       intro v2 w2 hown2 hg2 hat2
       rw [← encs_append] at hown2
       have hB2 : Below w.heap.size w w2 := (below_alloc' hB1 _).grown hg2 (below_alloc' hB1 _).size (fun k hk => row_base hown1 k hk)
       obtain ⟨A2, c2, rfl⟩ := row_slice hown2
       have hcap := row_cap hown2))
  go_ret
  exact ⟨A2, c2, rfl, ⟨hown2⟩, hB2⟩
set_option maxRecDepth 100000 in
set_option maxHeartbeats 2000000 in
theorem pats_any (m : Nat) (xs : List CellD) (hm : xs.length = m) (A B : Option Addr) (c1 c2 : Nat) (w : World) (hx : Reads w A xs) (hy : Reads w B xs) (hl : m ≤ 1000000000000000) :
    Calls Tryd.prog 87 #[.slice A m c1, .slice B m c2] w fun e w' => e = .returned (.bool true) ∧ Below w.heap.size w w' := by
  subst hm
  have hb : ((xs.length : Int) != (xs.length : Int)) = false := by simp
  have HX := Lib.hid hx
  have HY := Lib.hid hy
  clear hx hy
  go_enter Tryd.func87, Tryd.ntmps87
  go_wp2_with fail
  go_loopw [13] (fun i wr => ∃ k : Nat, k ≤ xs.length ∧ i = .int .i64 k ∧ Below w.heap.size w wr) (fun i wr => xs.length - (intOf i).toNat)
  case atStart => exact ⟨0, by omega, rfl, Below.refl _ _⟩
  case round =>
    obtain ⟨k, hk, rfl, hB⟩ := hrel
    by_cases hlt : k < xs.length
    · obtain ⟨g1, o1, hA, c1'⟩ := HX.out k hlt
      obtain ⟨g2, o2, hBa, c2'⟩ := HY.out k hlt
      subst hA hBa
      obtain ⟨d0, d1, d2⟩ := c1'.below hB
      obtain ⟨e0, e1, e2⟩ := c2'.below hB
      have hi1 : (k : Int) < (xs.length : Int) := by omega
      have hi0 : (0 : Int) ≤ (k : Int) := Int.natCast_nonneg _
      clear c1' c2'
      generalize xs[k] = x at *
      go_wp2
      go_quiet (fail)
      go_wp2
      go_roundw
      case rel => exact ⟨k + 1, by omega, by go_num, below_drewN hB _⟩
      case measure => simp [intOf]; omega
    · go_wp2
      go_ret
      exact ⟨rfl, hB⟩
set_option maxRecDepth 100000 in
set_option maxHeartbeats 2000000 in
theorem numbers8_any (n : Nat) (l : List Int) (hn : l.length = n) (A B : Option Addr) (b1 b2 c d : Nat) (w : World) (h : IntsAt w b1 (.slice A n c) l) (k : IntsAt w b2 (.slice B n d) l) (hl : n ≤ 1000000000000000) :
    Calls Tryd.prog 75 #[.slice A n c, .slice B n d] w fun e w' => e = .returned (.bool true) ∧ Below w.heap.size w w' := by
  subst hn
  have H := Lib.hid h
  have K := Lib.hid k
  clear h k
  have s1 : ((l.length : Int) != (l.length : Int)) = false := by simp
  go_enter Tryd.func75, Tryd.ntmps75
  go_wp2_with fail
  go_loopw [13] (fun i wr => ∃ j : Nat, j ≤ l.length ∧ i = .int .i64 j ∧ Below w.heap.size w wr) (fun i wr => l.length - (intOf i).toNat)
  case atStart => exact ⟨0, Nat.zero_le _, rfl, Below.refl _ _⟩
  case round =>
    obtain ⟨j, hj, rfl, hB⟩ := hrel
    by_cases hlt : j < l.length
    · obtain ⟨g1, hA, d0⟩ := (H.out.below hB).cells hlt
      obtain ⟨g2, hBa, e0⟩ := (K.out.below hB).cells hlt
      subst hA hBa
      have hi1 : (j : Int) < (l.length : Int) := by omega
      have hi0 : (0 : Int) ≤ (j : Int) := Int.natCast_nonneg _
      generalize l[j] = x at *
      have s2 : (x != x) = false := by simp
      go_wp2
      go_quiet (fail)
      go_wp2
      go_roundw
      case rel => exact ⟨j + 1, by omega, by go_num, below_drewN hB _⟩
      case measure => simp [intOf]; omega
    · go_wp2
      go_ret
      exact ⟨rfl, hB⟩
set_option maxRecDepth 100000 in
set_option maxHeartbeats 2000000 in
theorem pkept_any (l : List CellD) (A B : Option Addr) (base cap cap2 : Nat) (w : World) (h : PLentAt w base A cap l) (hr : Reads w B l) (hl : (l.length + 1) * 32 ≤ 140737488355328) :
    Calls Tryd.prog 60 #[.slice A l.length cap, .slice B l.length cap2] w fun e w' => e = .returned (.bool true) ∧ Below w.heap.size w w' := by
  have hcap := h.lenCap
  have H := Lib.hid h
  have HR := Lib.hid hr
  clear h hr
  go_enter Tryd.func60, Tryd.ntmps60
  go_wp2_with fail
  refine (pats_any _ l rfl A B cap cap2 _ H.out.reads HR.out (by omega)).mono ?_
  rintro e w' ⟨rfl, hb⟩
  obtain ⟨b, o, rfl, hc0, hc1, hc2⟩ := (H.out.below hb).reads2 l.length (by simp)
  rw [show (l ++ [markC])[l.length] = markC by simp] at hc2
  have hm : w'.cell? ⟨b, o + l.length * 3 + 2, none⟩ = some (.string ⟨#[98, 101, 104, 105, 110, 100, 32, 119, 104, 97, 116, 32, 119, 97, 115, 32, 104, 97, 110, 100, 101, 100, 32, 105, 110]⟩) := hc2
  have hi0 : (0 : Int) ≤ (l.length : Int) := Int.natCast_nonneg _
  have hi1 : (l.length : Int) + 1 ≤ (cap : Int) := by omega
  clear hc0 hc1 hc2
  go_wp2
  go_ret
  exact ⟨rfl, hb⟩
/-! the fixed call -/
def tagT : ByteArray := ⟨#[116, 97, 103]⟩
def kP8 : List CellD := [⟨5, 2, noText⟩, ⟨2, 0, tagT⟩, ⟨12, 1, noText⟩]
def kT8 : List CellD := [⟨5, 2, noText⟩, ⟨2, 0, tagT⟩, ⟨1, 7, noText⟩]
theorem ok_tag : okFrom tagT 0 = true := by
  have h0 : badAt tagT 0 = false := by decide +kernel
  have h1 : badAt tagT 1 = false := by decide +kernel
  have h2 : badAt tagT 2 = false := by decide +kernel
  have d0 : (Utf8.decode tagT 0).2 = 1 := by decide +kernel
  have d1 : (Utf8.decode tagT 1).2 = 1 := by decide +kernel
  have d2 : (Utf8.decode tagT 2).2 = 1 := by decide +kernel
  rw [okFrom, if_pos (by decide), if_neg (by simp [h0]), d0]
  show okFrom tagT 1 = true
  rw [okFrom, if_pos (by decide), if_neg (by simp [h1]), d1]
  show okFrom tagT 2 = true
  rw [okFrom, if_pos (by decide), if_neg (by simp [h2]), d2]
  show okFrom tagT 3 = true
  rw [okFrom, if_neg (by decide)]
theorem cell_tag : cellE ⟨2, 0, tagT⟩ = 0 := by simp [cellE, utf8B, ok_tag, show tagT.size = 3 from rfl]
theorem cell_t2 : cellE ⟨5, 2, noText⟩ = 0 := by simp [cellE, noText, ByteArray.size]
theorem cell_i7 : cellE ⟨1, 7, noText⟩ = 0 := by simp [cellE, noText, ByteArray.size]
theorem kT8_good : Good kT8 1 := ⟨cell_t2, by omega, cell_tag, by decide, cell_i7, by decide, show (_ : Int) = 0 from rfl⟩
theorem kT8_right : (rightE kT8).1 = 0 := right_of_good kT8_good (by decide)
theorem pat_b1 : patE ⟨12, 1, noText⟩ = 0 := by simp [patE, holeB, noText, ByteArray.size]
theorem kP8_right : (prightE kP8).1 = 0 := by
  have a : patE ⟨5, 2, noText⟩ = 0 := patE_cell cell_t2
  have b : patE ⟨2, 0, tagT⟩ = 0 := patE_cell cell_tag
  simp [prightE, kP8, prightL, a, b, pat_b1, kidsD, boundB]
def kR8 : List (List CellD) := (regs16 []).set 1 [⟨1, 7, noText⟩]
theorem k8_match : matchE kP8 kT8 [] = (kR8, true, 0) := by
  refine m_y kP8_right kT8_right rfl ?_ ?_
  · rfl
  · show fitsL (⟨5, 2, noText⟩ :: _) (⟨5, 2, noText⟩ :: _) [] _ = _
    rw [fits_cell_yes rfl]
    show fitsL (⟨2, 0, tagT⟩ :: _) (⟨2, 0, tagT⟩ :: _) [] _ = _
    rw [fits_cell_yes rfl, fits_bind rfl]
    rfl
theorem kfine8 (l : List CellD) (h : l.length ≤ 3) (k : ∀ c ∈ l, c.text.size ≤ 3) : Fine l := ⟨by omega, fun j hj => by have := k _ (List.getElem_mem hj); omega⟩
theorem RegsAt.cell {W : World} {base : Nat} {v : Value} {R : List (List CellD)} (h : RegsAt W base v R) {n : Nat} (hn : n < R.length) : ∃ og A c, v = .slice (some ⟨og, 0, none⟩) 16 16 ∧ R.length = 16 ∧ W.cell? ⟨og, n, none⟩ = some (.slice A R[n].length c) ∧ R[n].length ≤ c ∧ Reads W A R[n] := by
  rcases h with ⟨rfl, _⟩ | ⟨og, vs, e, hl, ho⟩
  · exact absurd hn (Nat.not_lt_zero n)
  · obtain ⟨A, c, e1, p⟩ := ho.cell hn
    exact ⟨og, A, c, e, hl, e1, p.reads.1, p.reads.2⟩
set_option maxRecDepth 100000 in
set_option maxHeartbeats 4000000 in
theorem awake8_any (w : World) (hT : Tabs w) : Calls Tryd.prog 61 #[] w fun e w' => e = .returned (.bool true) ∧ Below w.heap.size w w' := by
  have hb1 := below_one w (.cells #[.int .i64 5, .int .i64 2, .string ⟨#[]⟩, .int .i64 2, .int .i64 0, .string ⟨#[116, 97, 103]⟩, .int .i64 12, .int .i64 1, .string ⟨#[]⟩] 95)
  have hr1 : Reads (w.alloc (.cells #[.int .i64 5, .int .i64 2, .string ⟨#[]⟩, .int .i64 2, .int .i64 0, .string ⟨#[116, 97, 103]⟩, .int .i64 12, .int .i64 1, .string ⟨#[]⟩] 95)) (some ⟨w.heap.size, 0, none⟩) kP8 := reads_new w rfl
  have hb2 := below_one (w.alloc (.cells #[.int .i64 5, .int .i64 2, .string ⟨#[]⟩, .int .i64 2, .int .i64 0, .string ⟨#[116, 97, 103]⟩, .int .i64 12, .int .i64 1, .string ⟨#[]⟩] 95)) (.cells #[.int .i64 5, .int .i64 2, .string ⟨#[]⟩, .int .i64 2, .int .i64 0, .string ⟨#[116, 97, 103]⟩, .int .i64 1, .int .i64 7, .string ⟨#[]⟩] 32)
  have hr2 : Reads ((w.alloc (.cells #[.int .i64 5, .int .i64 2, .string ⟨#[]⟩, .int .i64 2, .int .i64 0, .string ⟨#[116, 97, 103]⟩, .int .i64 12, .int .i64 1, .string ⟨#[]⟩] 95)).alloc (.cells #[.int .i64 5, .int .i64 2, .string ⟨#[]⟩, .int .i64 2, .int .i64 0, .string ⟨#[116, 97, 103]⟩, .int .i64 1, .int .i64 7, .string ⟨#[]⟩] 32)) (some ⟨w.heap.size + 1, 0, none⟩) kT8 := by
    have := reads_new (w.alloc (.cells #[.int .i64 5, .int .i64 2, .string ⟨#[]⟩, .int .i64 2, .int .i64 0, .string ⟨#[116, 97, 103]⟩, .int .i64 12, .int .i64 1, .string ⟨#[]⟩] 95)) (t := 32) (cs := #[.int .i64 5, .int .i64 2, .string ⟨#[]⟩, .int .i64 2, .int .i64 0, .string ⟨#[116, 97, 103]⟩, .int .i64 1, .int .i64 7, .string ⟨#[]⟩]) (l := kT8) rfl
    rwa [World.size_alloc] at this
  have hB := below_then hb1 hb2
  have HP := Lib.hid (hr1.below hb2)
  have HT8 := Lib.hid hr2
  have HB := Lib.hid hB
  have HT := Lib.hid (Utf8Tabs_below hT hB)
  have HF1 := Lib.hid (kfine8 kP8 (by decide) (by decide))
  have HF2 := Lib.hid (kfine8 kT8 (by decide) (by decide))
  clear hb1 hr1 hb2 hr2 hB hT
  go_enter Tryd.func61, Tryd.ntmps61
  go_wp2_with fail
  refine (pmatch_any kP8 kT8 [] _ _ none 3 3 0 _ HP.out HF1.out HT8.out HF2.out (Reads2.nil _ _) Fine2.nil (by decide) (by simp) HT.out).mono ?_
  rw [k8_match]
  rintro e w1 ⟨v, rfl, hR, hb3⟩
  obtain ⟨og, A1, c1, rfl, _, hc, hc1, hR1⟩ := hR.cell (n := 1) (by decide)
  have hc' : w1.cell? ⟨og, 1, none⟩ = some (.slice A1 1 c1) := hc
  have HR1 := Lib.hid (show Reads w1.drew A1 [⟨1, 7, noText⟩] from hR1)
  have HB1 := Lib.hid (below_then HB.out hb3)
  have HT9 := Lib.hid (show Reads w1.drew (some ⟨w.heap.size + 1, 0 + 2 * 3, none⟩) [⟨1, 7, noText⟩] from ((HT8.out.below hb3).drop 2))
  clear hc hR hb3 hR1
  go_wp2_with fail
  go_region_held3 (fun w' => w'.cell? ⟨og, 1, none⟩ = some (.slice A1 1 c1))
    (first
      | exact cell_below hbc hc'
      | go_keep)
    ((go_at_call 26; refine (rsame_any A1 (some ⟨w.heap.size + 1, 0 + 2 * 3, none⟩) c1 _ [⟨1, 7, noText⟩] [⟨1, 7, noText⟩] _ HR1.out HT9.out (by simp) (by simp)).mono ?_; rintro e wc ⟨rfl, hbc⟩))
  go_wp2
  go_ret
  exact ⟨rfl, below_then HB1.out.drew hbc⟩
end Go.Proofs.YtefpolgflimlgaaDoor.Tm
