/- layer 13: the walk of IdsPlays. -/
import Derived.Test.YtofpbiadnbbaoaaIdQ
namespace Go.Proofs.Ytofpbiadnbbaoaa.Ids
open Go.RowKit
set_option linter.unusedVariables false
set_option linter.unusedSimpArgs false

/-- A script of numbers. -/
def Script64 (w : World) (a : Option Addr) (len : Nat) : Prop := ∀ i, i < len → ∃ x y, a = some x ∧ w.cell? (x.add i) = some (.int .i64 y) ∧ (Lit.int .i64 y).wf = true
/-- Both tables, with one content, in a world behind w. -/
structure Both (w W : World) (b c r : Nat) (l : List (Int × Bool)) : Prop where
  pt : PidsAt W b c l
  rt : RAt W r l
  inv : PInv l
  bel : Below w.heap.size w W
  hb : w.heap.size ≤ b
  hc : w.heap.size ≤ c
  hr : w.heap.size ≤ r
theorem Both.ne {w W : World} {b c r : Nat} {l : List (Int × Bool)} (h : Both w W b c r l) : r ≠ b ∧ r ≠ c := by
  constructor
  · intro e
    have h1 := h.rt.top
    rw [e] at h1
    have := h1.symm.trans h.pt.top
    simp [rowOf] at this
  · intro e
    have h1 := h.rt.top
    rw [e] at h1
    have := h1.symm.trans h.pt.row
    simp [gensOf] at this
theorem Both.below {w W W' : World} {b c r : Nat} {l : List (Int × Bool)} (h : Both w W b c r l) (hB : Below W.heap.size W W') : Both w W' b c r l :=
  ⟨h.pt.below hB, h.rt.below hB, h.inv, h.bel.trans (hB.mono h.bel.size), h.hb, h.hc, h.hr⟩
theorem Both.drewN {w W : World} {b c r : Nat} {l : List (Int × Bool)} (h : Both w W b c r l) (n : Nat) : Both w (W.drewN n) b c r l :=
  ⟨⟨h.pt.top, h.pt.row, h.pt.len⟩, ⟨h.rt.top, h.rt.len⟩, h.inv, ⟨h.bel.os, h.bel.tape, h.bel.output, h.bel.size, h.bel.block⟩, h.hb, h.hc, h.hr⟩
/-- Both change alike. -/
theorem Both.turn {w W W1 W2 : World} {b c r : Nat} {l l' : List (Int × Bool)} (h : Both w W b c r l) (hP : PidsAt W1 b c l') (h1 : W.grownBy W1 (some c)) (hR : RAt W1 r l → RAt W2 r l') (h2 : W1.grownBy W2 (some r)) (hI : PInv l') : Both w W2 b c r l' := by
  have hn := h.ne
  have hR1 := h.rt.kept h1 (by simp; exact fun e => hn.2 e.symm)
  exact ⟨hP.kept h2 (by simp; exact hn.1) (by simp; exact hn.2), hR hR1, hI, (h.bel.grown h1 h.bel.size (fun k e => by cases e; exact h.hc)).grown h2 (Nat.le_trans h.bel.size h1.size) (fun k e => by cases e; exact h.hr), h.hb, h.hc, h.hr⟩

/-- What 'all' and the reference's All hand back reads as the list of all. -/
theorem row_reads {w : World} {base cap : Nat} {A : Option Addr} {ys : List Int} (h : w.ownsRow base 2 1 (.slice A ys.length cap) ys.length (ys.map (Value.int .i64))) : ∀ j (h : j < ys.length), ∃ g o, A = some ⟨g, o, none⟩ ∧ w.cell? ⟨g, o + j, none⟩ = some (.int .i64 ys[j]) := by
  intro j hj
  obtain ⟨g, hy, e, hc⟩ := row_cell h j hj
  exact ⟨g, 0, e, by rw [Nat.zero_add]; exact hc⟩
theorem rAll_at (b : Nat) (l : List (Int × Bool)) (hI : PInv l) (ys : List Int) (hys : AllOf l ys) (w : World) (h : RAt w b l) :
    Calls Try.prog 43 #[.pointer (some ⟨b, 0, none⟩)] w fun e W' => ∃ A cap, e = .returned (.slice A ys.length cap) ∧ W'.ownsRow w.heap.size 2 1 (.slice A ys.length cap) ys.length (ys.map (Value.int .i64)) ∧ Below w.heap.size w W' := by
  refine (rAll_any b l hI w h).mono ?_
  rintro e W' ⟨v, zs, he, hr, hz, hB⟩
  obtain rfl := hz.unique hys
  obtain ⟨A, cap, rfl⟩ := row_slice hr
  exact ⟨A, cap, he, hr, hB⟩
theorem lawAll_at (b c : Nat) (l : List (Int × Bool)) (hI : PInv l) (ys : List Int) (hys : AllOf l ys) (w : World) (hP : PidsAt w b c l) :
    Calls Try.prog 37 #[.pointer (some ⟨b, 0, none⟩), .int .i64 0] w fun e W' => ∃ A cap, e = .returned (.slice A ys.length cap) ∧ W'.ownsRow w.heap.size 2 1 (.slice A ys.length cap) ys.length (ys.map (Value.int .i64)) ∧ Below w.heap.size w W' := by
  refine (lawAll_any b c 0 l hI w hP).mono ?_
  rintro e W' ⟨v, zs, he, hr, hz, hB⟩
  rcases hz with ⟨hz, _⟩ | ⟨_, h1, h2⟩
  · obtain rfl := hz.unique hys
    obtain ⟨A, cap, rfl⟩ := row_slice hr
    exact ⟨A, cap, he, hr, hB⟩
  · omega
theorem lawAll_three (b c : Nat) (l : List (Int × Bool)) (hI : PInv l) (ys : List Int) (hys : AllOf l ys) (w : World) (hP : PidsAt w b c l) :
    Calls Try.prog 37 #[.pointer (some ⟨b, 0, none⟩), .int .i64 3] w fun e W' => ∃ A cap, e = .returned (.slice A (ys.take 3).length cap) ∧ W'.ownsRow w.heap.size 2 1 (.slice A (ys.take 3).length cap) (ys.take 3).length ((ys.take 3).map (Value.int .i64)) ∧ Below w.heap.size w W' := by
  refine (lawAll_any b c 3 l hI w hP).mono ?_
  rintro e W' ⟨v, zs, he, hr, hz, hB⟩
  have e3 : zs = ys.take 3 := by
    rcases hz with ⟨hz, h1⟩ | ⟨hz, h1, h2⟩
    · obtain rfl := hz.unique hys
      rw [List.take_of_length_le (by omega)]
    · have := hz.of_all hys
      rw [List.prefix_iff_eq_take] at this
      rw [show (3 : Nat) = zs.length by omega]
      exact this
  subst e3
  obtain ⟨A, cap, rfl⟩ := row_slice hr
  exact ⟨A, cap, he, hr, hB⟩
/-- Some list of all. -/
theorem all_exists (l : List (Int × Bool)) (hI : PInv l) : ∃ ys, AllOf l ys := by
  have : ∀ k, k ≤ 64 → ∃ ys, Upto l k ys := by
    intro k
    induction k with
    | zero => intro _; exact ⟨[], by simp, trivial, fun x => by simp; rintro ⟨j, _, h, _⟩; omega⟩
    | succ k ih =>
      intro hk
      obtain ⟨ys, hy⟩ := ih (by omega)
      have hkl : k < l.length := by rw [hI.len]; omega
      by_cases ht : (l[k]).2 = true
      · have hn := hy.notin hI.len hkl hI.pos
        have : ∀ q, q ≤ ys.length → (∀ j (h : j < ys.length), q ≤ j → (l[k]).1 * 64 + k + 1 < ys[j]) → ∃ q, InsAt ys ((l[k]).1 * 64 + k + 1) q := by
          intro q
          induction q with
          | zero => intro h1 h2; exact ⟨0, InsAt.of_loop hy.up hn h1 h2 (.inl rfl)⟩
          | succ q ihq =>
            intro h1 h2
            rcases Int.lt_or_le ((l[k]).1 * 64 + k + 1) ys[q] with h3 | h3
            · exact ihq (by omega) (fun j hj hq => by
                rcases Nat.lt_or_ge q j with e | e
                · exact h2 j hj e
                · obtain rfl : j = q := by omega
                  exact h3)
            · exact ⟨q + 1, InsAt.of_loop hy.up hn h1 h2 (.inr ⟨by simp; omega, by simpa using h3⟩)⟩
        obtain ⟨q, hq⟩ := this ys.length (Nat.le_refl _) (fun j hj h => absurd hj (by omega))
        exact ⟨_, hy.ins hkl ht hq⟩
      · exact ⟨ys, hy.skip hkl (by simpa using ht)⟩
  obtain ⟨ys, hy⟩ := this 64 (Nat.le_refl _)
  exact ⟨ys, hy.all⟩

theorem take_cases (l : List (Int × Bool)) : (∃ k, ∃ hk : k < l.length, (∀ j (hj : j < k), okP (l[j]'(Nat.lt_trans hj hk)) = false) ∧ okP l[k] = true) ∨ (∀ j (hj : j < l.length), okP l[j] = false) := by
  induction l with
  | nil => exact .inr (fun j hj => absurd hj (by simp))
  | cons a l ih =>
    cases ha : okP a with
    | true => exact .inl ⟨0, by simp, fun j hj => absurd hj (Nat.not_lt_zero j), by simpa using ha⟩
    | false =>
      rcases ih with ⟨k, hk, h1, h2⟩ | h
      · refine .inl ⟨k + 1, by simpa using hk, fun j hj => ?_, by simpa using h2⟩
        cases j with
        | zero => simpa using ha
        | succ j => simpa using h1 j (by omega)
      · refine .inr fun j hj => ?_
        cases j with
        | zero => simpa using ha
        | succ j => simpa using h j (by simpa using hj)
theorem take_none (b c : Nat) (l : List (Int × Bool)) (w : World) (h : PidsAt w b c l) (hg : ∀ p ∈ l, 0 ≤ p.1) (hno : ∀ j (hj : j < l.length), okP l[j] = false) :
    Calls Try.prog 38 #[.pointer (some ⟨b, 0, none⟩)] w fun e w' => e = .returned (.tuple #[.int .i64 0, .int .i64 132]) ∧ Below w.heap.size w w' := by
  refine (take_any b c l w h hg).mono ?_
  rintro e w' (⟨k, hk, _, hy, _⟩ | ⟨_, he, hB⟩)
  · rw [hno k hk] at hy; exact absurd hy (by simp)
  · exact ⟨he, hB⟩
theorem rTake_none (b : Nat) (l : List (Int × Bool)) (w : World) (h : RAt w b l) (hg : ∀ p ∈ l, 0 ≤ p.1) (hno : ∀ j (hj : j < l.length), okP l[j] = false) :
    Calls Try.prog 44 #[.pointer (some ⟨b, 0, none⟩)] w fun e w' => e = .returned (.tuple #[.int .i64 0, .int .i64 132]) ∧ w = w' := by
  refine (rTake_any b l w h hg).mono ?_
  rintro e w' (⟨k, hk, _, hy, _⟩ | ⟨_, he, hB⟩)
  · rw [hno k hk] at hy; exact absurd hy (by simp)
  · exact ⟨he, hB⟩
theorem rTake_k (b : Nat) (l : List (Int × Bool)) (w : World) (h : RAt w b l) (hg : ∀ p ∈ l, 0 ≤ p.1) (k : Nat) (hk : k < l.length) (hno : ∀ j (hj : j < k), okP (l[j]'(Nat.lt_trans hj hk)) = false) (hyes : okP l[k] = true) :
    Calls Try.prog 44 #[.pointer (some ⟨b, 0, none⟩)] w fun e w' =>
        e = .returned (.tuple #[.int .i64 ((l[k]).1 * 64 + k + 1), .int .i64 0]) ∧ RAt w' b (l.set k ((l[k]).1, true)) ∧ w.grownBy w' (some b) := by
  refine (rTake_any b l w h hg).mono ?_
  rintro e w' (⟨k', hk', hno', hyes', he, hP, hG⟩ | ⟨hno', _, _⟩)
  · have : k' = k := by
      rcases Nat.lt_trichotomy k' k with h1 | h1 | h1
      · rw [hno k' h1] at hyes'; exact absurd hyes' (by simp)
      · exact h1
      · rw [hno' k h1] at hyes; exact absurd hyes (by simp)
    subst this
    exact ⟨he, hP, hG⟩
  · rw [hno' k hk] at hyes; exact absurd hyes (by simp)

/-- The copy that was made at the cut, and what lived then. -/
def Saved (W : World) (c : Nat) (v9 v10 : Value) : Prop := ∃ b' c' l0 ys A cap base, v9 = .pointer (some ⟨b', 0, none⟩) ∧ v10 = .slice A ys.length cap ∧ PidsAt W b' c' l0 ∧ PInv l0 ∧ AllOf l0 ys ∧ W.ownsRow base 2 1 v10 ys.length (ys.map (Value.int .i64)) ∧ c' ≠ c
theorem Saved.below {W W' : World} {c : Nat} {v9 v10 : Value} (h : Saved W c v9 v10) (hB : Below W.heap.size W W') : Saved W' c v9 v10 := by
  obtain ⟨b', c', l0, ys, A, cap, base, h1, h2, h3, h4, h5, h6, h7⟩ := h
  exact ⟨b', c', l0, ys, A, cap, base, h1, h2, h3.below hB, h4, h5, row_below h6 hB, h7⟩
theorem Saved.drewN {W : World} {c : Nat} {v9 v10 : Value} (h : Saved W c v9 v10) (n : Nat) : Saved (W.drewN n) c v9 v10 := h.below ⟨rfl, rfl, rfl, Nat.le_refl _, fun _ _ => rfl⟩
theorem Saved.kept {W W' : World} {b c r : Nat} {l l2 : List (Int × Bool)} {v9 v10 : Value} (h : Saved W c v9 v10) (hP : PidsAt W b c l) (hR : RAt W r l2) {row : Nat} (hg : W.grownBy W' (some row)) (hr : row = c ∨ row = r) : Saved W' c v9 v10 := by
  obtain ⟨b', c', l0, ys, A, cap, base, h1, h2, h3, h4, h5, h6, h7⟩ := h
  have hcb : row ≠ b' := by
    intro e
    rcases hr with rfl | rfl
    · have h8 := h3.top; rw [← e] at h8; have := h8.symm.trans hP.row; simp [rowOf, gensOf] at this
    · have h8 := h3.top; rw [← e] at h8; have := h8.symm.trans hR.top; simp [rowOf] at this
  have hcc : row ≠ c' := by
    intro e
    rcases hr with rfl | rfl
    · exact h7 e.symm
    · have h8 := h3.row; rw [← e] at h8; have := h8.symm.trans hR.top; simp [gensOf] at this
  have hrow : v10.ownBlock ≠ some row := by
    rcases hr with rfl | rfl
    · exact row_ne h6 hP
    · rcases h6.2 with ⟨e, _⟩ | ⟨g, cap', cur, e, _, hg', _⟩
      · rw [e]; simp [Value.ownBlock]
      · intro e2
        rw [e] at e2
        have e3 : g = row := by simpa [Value.ownBlock] using e2
        rw [e3] at hg'
        have := hg'.symm.trans hR.top
        simp at this
  exact ⟨b', c', l0, ys, A, cap, base, h1, h2, h3.kept hg (by simp; exact hcb) (by simp; exact hcc), h4, h5, h6.kept hg (.inr hrow), h7⟩
/-- What the two variables hold at round k. -/
def CutRel (W : World) (c : Nat) (cut : Int) (k : Nat) (v9 v10 : Value) : Prop := (¬ (0 ≤ cut ∧ cut < k) ∧ v9 = .pointer none) ∨ ((0 ≤ cut ∧ cut < k) ∧ Saved W c v9 v10)
theorem CutRel.below {W W' : World} {c : Nat} {cut : Int} {k : Nat} {v9 v10 : Value} (h : CutRel W c cut k v9 v10) (hB : Below W.heap.size W W') : CutRel W' c cut k v9 v10 := h.imp id (fun ⟨a, b⟩ => ⟨a, b.below hB⟩)
theorem CutRel.drewN {W : World} {c : Nat} {cut : Int} {k : Nat} {v9 v10 : Value} (h : CutRel W c cut k v9 v10) (n : Nat) : CutRel (W.drewN n) c cut k v9 v10 := h.imp id (fun ⟨a, b⟩ => ⟨a, b.drewN n⟩)
theorem CutRel.kept {W W' : World} {b c r : Nat} {l l2 : List (Int × Bool)} {cut : Int} {k : Nat} {v9 v10 : Value} (h : CutRel W c cut k v9 v10) (hP : PidsAt W b c l) (hR : RAt W r l2) {row : Nat} (hg : W.grownBy W' (some row)) (hr : row = c ∨ row = r) : CutRel W' c cut k v9 v10 := h.imp id (fun ⟨a, b⟩ => ⟨a, b.kept hP hR hg hr⟩)
theorem CutRel.next {W : World} {c : Nat} {cut : Int} {k : Nat} {v9 v10 : Value} (h : CutRel W c cut k v9 v10) (hk : (k : Int) ≠ cut) : CutRel W c cut (k + 1) v9 v10 := by
  rcases h with ⟨a, b⟩ | ⟨a, b⟩
  · exact .inl ⟨by omega, b⟩
  · exact .inr ⟨by omega, b⟩
end Go.Proofs.Ytofpbiadnbbaoaa.Ids
