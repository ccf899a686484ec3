/- Contracts of layer 13: Live, Free. -/
import Derived.Test.YtofpbiadnbbaoaaIdC
namespace Go.Proofs.Ytofpbiadnbbaoaa.Ids
open Go.RowKit
set_option linter.unusedVariables false
set_option linter.unusedSimpArgs false

theorem spP_bd {x : Int} (a : 1 ≤ x) (b : x ≤ 1099511627776) : 0 ≤ (x - 1) % 64 ∧ (x - 1) % 64 < 64 ∧ 0 ≤ (x - 1) / 64 ∧ (x - 1) / 64 ≤ 17179869183 := by omega
def liveP (l : List (Int × Bool)) (x : Int) : Bool := decide (1 ≤ x) && decide (x ≤ 1099511627776) && (l[((x - 1) % 64).toNat]? == some ((x - 1) / 64, true))

theorem live_nil (x : Int) (w : World) : Calls Try.prog 40 #[.pointer none, .int .i64 x] w fun e w' => e = .returned (.bool false) ∧ w = w' := by
  go_enter Try.func40, Try.ntmps40
  go_wp2_with fail
  refine (split_any _ _).mono ?_
  rintro e w' ⟨rfl, rfl⟩
  go_wp2
  go_ret
  exact ⟨rfl, rfl⟩
theorem live_no (b c : Nat) (x : Int) (l : List (Int × Bool)) (w : World) (h : PidsAt w b c l) (hx : x < 1 ∨ 1099511627776 < x) :
    Calls Try.prog 40 #[.pointer (some ⟨b, 0, none⟩), .int .i64 x] w fun e w' => e = .returned (.bool false) ∧ w = w' := by
  have H := Lib.hid (spP_no hx)
  clear hx
  go_enter Try.func40, Try.ntmps40
  go_wp2_with fail
  refine (split_any _ _).mono ?_
  rintro e w' ⟨rfl, rfl⟩
  rw [H.out]
  go_wp2
  go_ret
  exact ⟨rfl, rfl⟩
theorem live_at (b c : Nat) (x : Int) (l : List (Int × Bool)) (w : World) (h : PidsAt w b c l) (k : Nat) (hk : k < l.length) (g : Int) (H : Hid (spP x = ((k : Int), g, 0))) :
    Calls Try.prog 40 #[.pointer (some ⟨b, 0, none⟩), .int .i64 x] w fun e w' => e = .returned (.bool (l[k] == (g, true))) ∧ w = w' := by
  have c0 := h.gen k hk
  have c1 := h.taken k hk
  have ct := h.cell
  have h64 : k < 64 := by rw [← h.len]; exact hk
  generalize hgt : l[k] = p at c0 c1
  have HT := Lib.hid hgt
  clear hgt
  obtain ⟨g0, t⟩ := p
  simp only at c0 c1
  go_enter Try.func40, Try.ntmps40
  go_wp2_with fail
  refine (split_any _ _).mono ?_
  rintro e w' ⟨rfl, rfl⟩
  rw [H.out]
  by_cases hg : g0 = g
  · subst hg
    cases t
    · go_wp2
      go_ret
      exact ⟨by simp, rfl⟩
    · go_wp2
      go_ret
      exact ⟨by simp, rfl⟩
  · have e : ((g0, t) == (g, true)) = false := by simp [hg]
    go_wp2
    go_ret
    exact ⟨by first | rfl | simp [e] | simp_all, rfl⟩

/-- What lives, in all cases. -/
theorem liveP_no {l : List (Int × Bool)} {x : Int} (h : x < 1 ∨ 1099511627776 < x) : liveP l x = false := by
  unfold liveP; rcases h with h | h
  · have : decide (1 ≤ x) = false := by simp; omega
    simp [this]
  · have : decide (x ≤ 1099511627776) = false := by simp; omega
    simp [this]
theorem liveP_yes {l : List (Int × Bool)} {x : Int} (h0 : 1 ≤ x) (h1 : x ≤ 1099511627776) (k : Nat) (hk : k < l.length) (e : (x - 1) % 64 = k) : liveP l x = (l[k] == ((x - 1) / 64, true)) := by
  unfold liveP
  rw [e, decide_eq_true h0, decide_eq_true h1, Int.toNat_natCast, List.getElem?_eq_getElem hk]
  simp
theorem live_any (b c : Nat) (x : Int) (l : List (Int × Bool)) (w : World) (h : PidsAt w b c l) :
    Calls Try.prog 40 #[.pointer (some ⟨b, 0, none⟩), .int .i64 x] w fun e w' => e = .returned (.bool (liveP l x)) ∧ w = w' := by
  by_cases hx : x < 1 ∨ 1099511627776 < x
  · rw [liveP_no hx]; exact live_no b c x l w h hx
  · obtain ⟨k, hk⟩ := Int.eq_ofNat_of_zero_le (show 0 ≤ (x - 1) % 64 by omega)
    have hl := h.len
    have hkl : k < l.length := by omega
    rw [liveP_yes (by omega) (by omega) k hkl hk]
    exact live_at b c x l w h k hkl ((x - 1) / 64) (by rw [spP_yes (by omega) (by omega), hk]; rfl)

theorem free_nil (x : Int) (w : World) : Calls Try.prog 39 #[.pointer none, .int .i64 x] w fun e w' => e = .returned (.int .i64 2) ∧ w = w' := by
  go_enter Try.func39, Try.ntmps39
  go_wp2
  go_ret
  exact ⟨rfl, rfl⟩
theorem free_no (b c : Nat) (x : Int) (l : List (Int × Bool)) (w : World) (h : PidsAt w b c l) (hx : liveP l x = false) :
    Calls Try.prog 39 #[.pointer (some ⟨b, 0, none⟩), .int .i64 x] w fun e w' => e = .returned (.int .i64 131) ∧ w = w' := by
  go_enter Try.func39, Try.ntmps39
  go_wp2_with fail
  refine (live_any b c x l _ h).mono ?_
  rintro e w' ⟨rfl, rfl⟩
  rw [hx]
  go_wp2
  go_ret
  exact ⟨rfl, rfl⟩
theorem liveP_at {l : List (Int × Bool)} {x : Int} (hx : liveP l x = true) : 1 ≤ x ∧ x ≤ 1099511627776 ∧ ∃ k, ∃ hk : k < l.length, (x - 1) % 64 = k ∧ l[k] = ((x - 1) / 64, true) := by
  unfold liveP at hx
  simp only [Bool.and_eq_true, decide_eq_true_eq, beq_iff_eq] at hx
  obtain ⟨⟨h0, h1⟩, h2⟩ := hx
  obtain ⟨hk, e⟩ := List.getElem?_eq_some_iff.1 h2
  exact ⟨h0, h1, _, hk, by omega, e⟩
theorem free_yes (b c : Nat) (x : Int) (l : List (Int × Bool)) (w : World) (h : PidsAt w b c l) (k : Nat) (hk : k < l.length) (g : Int) (hx : liveP l x = true) (hs : spP x = ((k : Int), g, 0)) (hl : l[k] = (g, true)) (hg : 0 ≤ g ∧ g ≤ 17179869183) :
    Calls Try.prog 39 #[.pointer (some ⟨b, 0, none⟩), .int .i64 x] w fun e w' => e = .returned (.int .i64 0) ∧ PidsAt w' b c (l.set k (g + 1, false)) ∧ w.grownBy w' (some c) := by
  have c0 := h.gen k hk
  have c1 := h.taken k hk
  have f0 := h.free (k * 2)
  have f1 := h.free (k * 2 + 1)
  have ct := h.cell
  have h64 : k < 64 := by rw [← h.len]; exact hk
  rw [hl] at c0 c1
  simp only at c0 c1
  have HL := Lib.hid hl
  clear hl
  have HS := Lib.hid hs
  clear hs
  have HX := Lib.hid hx
  clear hx
  go_enter Try.func39, Try.ntmps39
  go_wp2_with fail
  refine (live_any b c x l _ h).mono ?_
  rintro e w' ⟨rfl, rfl⟩
  rw [HX.out]
  go_wp2_with fail
  refine (split_any _ _).mono ?_
  rintro e w' ⟨rfl, rfl⟩
  rw [HS.out]
  go_wp2
  go_ret
  have hk2 : k < (l.set k (g + 1, (l[k]).2)).length := by simpa using hk
  have s2 := (h.setGen k hk (g + 1)).setTaken k hk2 false
  have e2 : (l.set k (g + 1, (l[k]).2)).set k (((l.set k (g + 1, (l[k]).2))[k]).1, false) = l.set k (g + 1, false) := by simp
  rw [e2] at s2
  exact ⟨rfl, s2, grown_trans (grown_setCell _ _ _ _) (grown_setCell _ _ _ _)⟩
theorem free_any (b c : Nat) (x : Int) (l : List (Int × Bool)) (w : World) (h : PidsAt w b c l) (hg : ∀ p ∈ l, 0 ≤ p.1) (hx : liveP l x = true) :
    Calls Try.prog 39 #[.pointer (some ⟨b, 0, none⟩), .int .i64 x] w fun e w' => e = .returned (.int .i64 0) ∧ PidsAt w' b c (l.set ((x - 1) % 64).toNat ((x - 1) / 64 + 1, false)) ∧ w.grownBy w' (some c) := by
  obtain ⟨h0, h1, k, hk, e, hl⟩ := liveP_at hx
  rw [e, Int.toNat_natCast]
  exact free_yes b c x l w h k hk ((x - 1) / 64) hx (by rw [spP_yes h0 h1, e]) hl (by omega)
end Go.Proofs.Ytofpbiadnbbaoaa.Ids
