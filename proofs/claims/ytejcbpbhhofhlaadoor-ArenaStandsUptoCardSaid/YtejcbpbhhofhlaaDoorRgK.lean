/- Layer 3's law: apart, SameWords; Spoil. -/
import Derived.Test.YtejcbpbhhofhlaaDoorRgJ
namespace Go.Proofs.YtejcbpbhhofhlaaDoor.Tm
open Go.RowKit
set_option linter.unusedVariables false
set_option linter.unusedSimpArgs false

theorem row_some {w : World} {base n c g : Nat} {e : TypeId} {size : Nat} {xs : List Value} (h : w.ownsRow base e size (.slice (some ⟨g, 0, none⟩) n c) n xs) {j : Nat} (hj : j < n * size) : ∃ u, w.cell? ⟨g, j, none⟩ = some u := by
  have hl : j < xs.length := by rw [h.1]; exact hj
  exact ⟨xs[j], by rw [h.cellAt j hj, List.getElem?_eq_getElem hl]⟩
theorem below_set {B : Nat} {w W : World} (h : Below B w W) {g j : Nat} (hg : B ≤ g) (u : Value) : Below B w (W.setCell ⟨g, j, none⟩ u) := h.setCell hg u
def behC : CellD := ⟨0, 0, ⟨#[98, 101, 104, 105, 110, 100]⟩⟩
theorem grown_set {w W : World} {row : Option Nat} (h : w.grownBy W row) {g j : Nat} (hg : row = some g ∨ w.heap.size ≤ g) (u : Value) : w.grownBy (W.setCell ⟨g, j, none⟩ u) row :=
  ⟨h.os, h.tape, h.output, by simpa [World.setCell] using h.size, fun k hk hr => (Below.heap_setCell W ⟨g, j, none⟩ u k (by
    rintro rfl
    rcases hg with e | e
    · exact hr (by rw [e])
    · exact absurd hk (Nat.not_lt.2 e))).trans (h.block k hk hr)⟩
theorem grown_alloc {w W : World} {row : Option Nat} (h : w.grownBy W row) (o : Obj) : w.grownBy (W.alloc o) row :=
  ⟨h.os, h.tape, h.output, Nat.le_trans h.size (by simp), fun k hk hr => (Below.heap_alloc W o k (Nat.lt_of_lt_of_le hk h.size)).trans (h.block k hk hr)⟩
/-- Only the row of the call's own has turned, and what is new. -/
theorem spoil_grown {w W V : World} {row : Option Nat} (h : w.grownBy W row) (k : W.grownBy V row) : w.grownBy V row := grown_trans h k
set_option maxHeartbeats 2000000 in
theorem spoil_any (A : Option Addr) (n c base : Nat) (xs : List Value) (w : World) (h : w.ownsRow base 37 3 (.slice A n c) n xs) (hbs : base ≤ w.heap.size) (hn : n ≤ 1000000000000) :
    Calls Tryd.prog 70 #[.slice A n c] w fun e w' => e = .returned (.tuple #[]) ∧ w.grownBy w' (Value.slice A n c).ownBlock := by
  have H := Lib.hid h
  clear h
  go_enter Tryd.func70, Tryd.ntmps70
  go_wp2_with fail
  go_loopw [2] (fun i wr => ∃ k : Nat, ∃ ys : List Value, k ≤ n ∧ i = .int .i64 k ∧ Hid (wr.ownsRow base 37 3 (.slice A n c) n ys) ∧ Hid (w.grownBy wr (Value.slice A n c).ownBlock) ∧ w.heap.size ≤ wr.heap.size) (fun i wr => n - (intOf i).toNat)
  case atStart => exact ⟨0, xs, Nat.zero_le _, rfl, H, World.grownBy.refl w _, Nat.le_refl _⟩
  case round =>
    obtain ⟨k, ys, hk, rfl, hrow, hG, hsz⟩ := hrel
    by_cases hlt : k < n
    · obtain ⟨g, rfl, hg, hgl⟩ := row_form hrow.out (by omega)
      obtain ⟨u0, c0⟩ := row_some hrow.out (j := k * 3) (by omega)
      obtain ⟨u1, c1⟩ := row_some hrow.out (j := k * 3 + 1) (by omega)
      obtain ⟨u2, c2⟩ := row_some hrow.out (j := k * 3 + 2) (by omega)
      have f0 := hrow.out.frozenAt (k * 3)
      have f1 := hrow.out.frozenAt (k * 3 + 1)
      have f2 := hrow.out.frozenAt (k * 3 + 2)
      have hi1 : (k : Int) < (n : Int) := by omega
      have hi0 : (0 : Int) ≤ (k : Int) := Int.natCast_nonneg _
      go_wp2
      have s0 := hrow.out.stored (k * 3) (Value.int .i64 99)
      have s1 := s0.1.stored (k * 3 + 1) (Value.int .i64 99)
      have s2 := s1.1.stored (k * 3 + 2) (Value.string ⟨#[115, 112, 111, 105, 108, 116]⟩)
      refine ⟨⟨k + 1, _, by omega, by go_num, s2.1, grown_set (grown_set (grown_set hG.out (.inl rfl) _) (.inl rfl) _) (.inl rfl) _, by simpa using hsz⟩, ?_⟩
      simp [intOf]; omega
    · obtain rfl : k = n := by omega
      obtain ⟨i0, hi, hz0, hz1, hz2⟩ := info_parts cell_info
      go_wp2_with (at_builtin; refine wpList_app _ rfl (.tmp 13) (.tmp 15) _ rfl base _ i0 _ 3 32 Tryd.underlying35 hi hz0 hz1 hz2 rfl (Nat.zero_lt_succ 2) (.slice A k c) k ys rfl ?a2 (some ⟨wr.heap.size, 0, none⟩) 1 1 (encs [behC]) rfl ?a3 ?a4 ?a5 ?a6 ?a7)
      case a2 => exact hrow.out.alloc _
      case a3 => exact Src.of_one (new_cell wr behC _)
      case a4 => simp only [maxLen]; omega
      case a5 => omega
      case a6 => rw [World.size_alloc]; omega
      case a7 =>
        intro v1 w2 hown2 hg2 hat2
        obtain ⟨A2, c2, rfl⟩ := row_slice hown2
        obtain ⟨g2, rfl, hgb, hgl⟩ := row_form hown2 (by omega)
        obtain ⟨u1, d1⟩ := row_some hown2 (j := k * 3 + 1) (by omega)
        have f1 := hown2.frozenAt (k * 3 + 1)
        have hG2 := Lib.hid (grown_trans (grown_alloc hG.out _) hg2)
        have hi0 : (0 : Int) ≤ (k : Int) := Int.natCast_nonneg _
        have hwhere : (Value.slice A k c).ownBlock = some g2 ∨ w.heap.size ≤ g2 := by
          rcases hat2 with e | e
          · exact .inl e.symm
          · have : g2 = wr.heap.size + 1 := by simpa [Value.ownBlock] using e
            exact .inr (by omega)
        have HW := Lib.hid hwhere
        clear hat2 hg2 hwhere
        go_wp2
        go_end0
        exact ⟨rfl, grown_set hG2.out HW.out _⟩

theorem words_apart {l : List ObjA} (hw : WfA l) (hu : usedA l ≤ 262144) {i j : Nat} (hi : i < l.length) (hj : j < l.length) (hne : i ≠ j) {x y : Int} (hx : (wordsA 0 l)[i]? = some x) (hy : (wordsA 0 l)[j]? = some y) : x ≠ y := by
  obtain ⟨x', e1, f1, _⟩ := word_at hw hu hi
  obtain ⟨y', e2, f2, _⟩ := word_at hw hu hj
  rw [hx] at e1
  rw [hy] at e2
  cases e1
  cases e2
  intro e
  rw [e, f2] at f1
  have := Option.some.inj f1
  omega
set_option maxHeartbeats 2000000 in
theorem apart_all (w : World) (l : List ObjA) (A : Option Addr) (cap : Nat) (hw : WfA l) (hu : usedA l ≤ 262144) (hr : WReads w A (wordsA 0 l)) :
    Calls Tryd.prog 24 #[.slice A l.length cap] w fun e w' => e = .returned (.bool true) ∧ Below w.heap.size w w' := by
  have hll := hw.len
  have HR := Lib.hid hr
  have HW := Lib.hid (fun k (h : k < l.length) => word_at hw hu h)
  have HP := Lib.hid (fun i j (hi : i < l.length) (hj : j < l.length) (hne : i ≠ j) x y (hx : (wordsA 0 l)[i]? = some x) (hy : (wordsA 0 l)[j]? = some y) => words_apart hw hu hi hj hne hx hy)
  clear hr hw
  go_enter Tryd.func24, Tryd.ntmps24
  go_wp2_with fail
  go_loopw [3] (fun i wr => ∃ k : Nat, k ≤ l.length ∧ i = .int .i64 (k : Int) ∧ Hid (Below w.heap.size w wr)) (fun i wr => l.length - (intOf i).toNat)
  case atStart => exact ⟨0, Nat.zero_le _, rfl, Lib.hid (Below.refl _ _)⟩
  case round =>
    obtain ⟨k, hk, rfl, hB⟩ := hrel
    by_cases hlt : k < l.length
    · obtain ⟨x, hx, _, hkd, x0, x1⟩ := HW.out k hlt
      have hkw : k < (wordsA 0 l).length := by rw [wordsA_len]; exact hlt
      obtain ⟨wo, hwo⟩ : ∃ W, W = wr := ⟨_, rfl⟩
      subst hwo
      have hk1 : (k : Int) < (l.length : Int) := by omega
      have hkb : decide ((k : Int) < (l.length : Int)) = true := decide_eq_true hk1
      have hk0 : (0 : Int) ≤ (k : Int) := Int.natCast_nonneg _
      have HX := Lib.hid hx
      have e1 : (kdW x == 1) = false := beq_eq_false_iff_ne.2 (by omega)
      have e2 : (kdW x == 2) = false := beq_eq_false_iff_ne.2 (by omega)
      clear hx hkd
      go_wp2_with fail
      go_loopw [4] (fun i wr => ∃ m : Nat, m ≤ k ∧ i = .int .i64 (m : Int) ∧ Hid (Below wo.heap.size wo wr)) (fun i wr => k - (intOf i).toNat)
      case atStart => exact ⟨0, Nat.zero_le _, rfl, Lib.hid (Below.refl _ _)⟩
      case round =>
        obtain ⟨m, hm, rfl, hB2⟩ := hrel
        have hB3 := below_then hB.out hB2.out
        obtain ⟨g, o, hA, hc⟩ := (HR.out.below hB3) k hkw
        rw [List.getElem?_eq_getElem hkw] at HX
        rw [Option.some.inj HX.out] at hc
        subst hA
        by_cases hml : m < k
        · have hmw : m < (wordsA 0 l).length := by omega
          obtain ⟨g2, o2, hA2, hc2⟩ := (HR.out.below hB3) m hmw
          obtain ⟨rfl, rfl⟩ : g = g2 ∧ o = o2 := by simpa using hA2
          obtain ⟨y, hy⟩ : ∃ y, (wordsA 0 l)[m] = y := ⟨_, rfl⟩
          rw [hy] at hc2
          have hne := HP.out k m hlt (by omega) (by omega) x y (by rw [List.getElem?_eq_getElem hkw]; exact HX.out) (by rw [List.getElem?_eq_getElem hmw, hy])
          have hnb : (x == y) = false := beq_eq_false_iff_ne.2 hne
          have hm1 : (m : Int) < (l.length : Int) := by omega
          have hm2 : (m : Int) < (k : Int) := by omega
          have hm0 : (0 : Int) ≤ (m : Int) := Int.natCast_nonneg _
          clear hne hy hA2
          go_wp2_with fail
          go_quiet (fail)
          go_wp2
          go_roundw
          case rel => exact ⟨m + 1, by omega, by go_num, Lib.hid (below_drewA hB2.out _)⟩
          case measure => simp [intOf]; omega
        · obtain rfl : m = k := by omega
          have hmb : decide ((m : Int) < (m : Int)) = false := decide_eq_false (by omega)
          have HB3 := Lib.hid hB3
          go_wp2_with fail
          refine (rkind_any x _ x0 x1).mono ?_
          rintro e w3 ⟨rfl, rfl⟩
          go_wp2
          go_roundw
          case rel => exact ⟨m + 1, by omega, by go_num, HB3⟩
          case measure => simp [intOf]; omega
    · obtain rfl : k = l.length := by omega
      have hkb : decide ((l.length : Int) < (l.length : Int)) = false := decide_eq_false (by omega)
      go_wp2
      go_ret
      exact ⟨rfl, hB.out⟩
set_option maxHeartbeats 2000000 in
theorem samewords_any (w : World) (xs : List Int) (A B : Option Addr) (c d : Nat) (hA : WReads w A xs) (hB : WReads w B xs) (hl : xs.length ≤ 1000000) :
    Calls Tryd.prog 66 #[.slice A xs.length c, .slice B xs.length d] w fun e w' => e = .returned (.bool true) ∧ Below w.heap.size w w' := by
  have hlb : ((xs.length : Int) != (xs.length : Int)) = false := by simp
  have HA := Lib.hid hA
  have HB := Lib.hid hB
  clear hA hB
  go_enter Tryd.func66, Tryd.ntmps66
  go_wp2_with fail
  go_loopw [5] (fun i wr => ∃ k : Nat, k ≤ xs.length ∧ i = .int .i64 (k : Int) ∧ Hid (Below w.heap.size w wr)) (fun i wr => xs.length - (intOf i).toNat)
  case atStart => exact ⟨0, Nat.zero_le _, rfl, Lib.hid (Below.refl _ _)⟩
  case round =>
    obtain ⟨k, hk, rfl, hW⟩ := hrel
    by_cases hlt : k < xs.length
    · obtain ⟨g, o, rfl, hc⟩ := (HA.out.below hW.out) k hlt
      obtain ⟨g2, o2, rfl, hc2⟩ := (HB.out.below hW.out) k hlt
      obtain ⟨x, hx⟩ : ∃ x, xs[k] = x := ⟨_, rfl⟩
      rw [hx] at hc hc2
      have hxx : (x != x) = false := by simp
      have hk1 : (k : Int) < (xs.length : Int) := by omega
      have hk0 : (0 : Int) ≤ (k : Int) := Int.natCast_nonneg _
      clear hx
      go_wp2_with fail
      go_quiet (fail)
      go_wp2
      go_roundw
      case rel => exact ⟨k + 1, by omega, by go_num, Lib.hid (below_drewA hW.out _)⟩
      case measure => simp [intOf]; omega
    · obtain rfl : k = xs.length := by omega
      go_wp2
      go_ret
      exact ⟨rfl, hW.out⟩
end Go.Proofs.YtejcbpbhhofhlaaDoor.Tm
