/- layer 13: the reference's Take, Live, Free. -/
import Derived.Test.YtofpbiadnbbaoaaIdN
import Derived.RegionTactic
namespace Go.Proofs.Ytofpbiadnbbaoaa.Ids
open Go.RowKit
set_option linter.unusedVariables false
set_option linter.unusedSimpArgs false

set_option maxHeartbeats 400000 in
theorem rTake_any (b : Nat) (l : List (Int × Bool)) (w : World) (h : RAt w b l) (hg : ∀ p ∈ l, 0 ≤ p.1) :
    Calls Try.prog 44 #[.pointer (some ⟨b, 0, none⟩)] w fun e w' =>
      (∃ (k : Nat) (hk : k < l.length), (∀ j (hj : j < k), okP (l[j]'(Nat.lt_trans hj hk)) = false) ∧ okP l[k] = true ∧
        e = .returned (.tuple #[.int .i64 ((l[k]).1 * 64 + k + 1), .int .i64 0]) ∧ RAt w' b (l.set k ((l[k]).1, true)) ∧ w.grownBy w' (some b)) ∨
      ((∀ j (hj : j < l.length), okP l[j] = false) ∧ e = .returned (.tuple #[.int .i64 0, .int .i64 132]) ∧ w = w') := by
  have hlen := Lib.hid h.len
  go_enter Try.func44, Try.ntmps44
  go_wp2_with fail
  go_loop [4] (fun i => ∃ k : Nat, k ≤ 64 ∧ i = .int .i64 k ∧ Hid (∀ j (hj : j < l.length), j < k → okP l[j] = false)) (fun i => 64 - (intOf i).toNat)
  case atStart => exact ⟨0, by omega, rfl, fun j _ hj => absurd hj (Nat.not_lt_zero j)⟩
  case round =>
    obtain ⟨k, hk, rfl, hno⟩ := hrel
    by_cases hlt : k < 64
    · have hkl : k < l.length := by rw [hlen.out]; exact hlt
      have c0 := h.gen k hkl
      have c1 := h.taken k hkl
      have f1 := h.free (64 + k)
      have hg0 := hg l[k] (List.getElem_mem hkl)
      generalize hgt : l[k] = p at c0 c1 hg0
      have HT := Lib.hid hgt
      clear hgt hg
      obtain ⟨g, t⟩ := p
      simp only at c0 c1 hg0
      cases t with
      | true =>
        go_wp2
        go_round
        case rel => exact ⟨k + 1, by omega, by go_num, fun j hj hjk => by
          rcases Nat.lt_succ_iff_lt_or_eq.1 hjk with e | rfl
          · exact hno.out j hj e
          · rw [HT.out]; rfl⟩
        case measure => simp [intOf]; omega
      | false =>
        by_cases hm : g ≤ 17179869183
        · have HM := Lib.hid (mkP_yes (p := (k : Int)) (g := g) (by omega) (by omega) hg0 hm)
          go_wp2_with fail
          refine (refMake_any _ _ _).mono ?_
          rintro e w' ⟨rfl, rfl⟩
          go_wp2
          go_ret2
          refine Or.inl ⟨k, hkl, fun j hj => hno.out j _ hj, by rw [HT.out]; simp [okP]; omega, ?_, h.setTaken k hkl true, grown_setCell _ _ _ _⟩
          show Ending.returned (.tuple #[.int .i64 (mkP (k : Int) g).1, .int .i64 (mkP (k : Int) g).2]) = _
          rw [HM.out, HT.out]
        · go_wp2
          go_round
          case rel => exact ⟨k + 1, by omega, by go_num, fun j hj hjk => by
            rcases Nat.lt_succ_iff_lt_or_eq.1 hjk with e | rfl
            · exact hno.out j hj e
            · rw [HT.out]; simp [okP]; omega⟩
          case measure => simp [intOf]; omega
    · go_wp2
      go_ret2
      exact Or.inr ⟨fun j hj => hno.out j hj (by have := hlen.out; omega), rfl, rfl⟩

theorem rLive_no (b : Nat) (x : Int) (l : List (Int × Bool)) (w : World) (h : RAt w b l) (hx : x < 1 ∨ 1099511627776 < x) :
    Calls Try.prog 47 #[.pointer (some ⟨b, 0, none⟩), .int .i64 x] w fun e w' => e = .returned (.bool false) ∧ w = w' := by
  have H := Lib.hid (spP_no hx)
  clear hx
  go_enter Try.func47, Try.ntmps47
  go_wp2_with fail
  refine (refSplit_any _ _).mono ?_
  rintro e w' ⟨rfl, rfl⟩
  rw [H.out]
  go_wp2
  go_ret
  exact ⟨rfl, rfl⟩
theorem rLive_at (b : Nat) (x : Int) (l : List (Int × Bool)) (w : World) (h : RAt w b l) (k : Nat) (hk : k < l.length) (g : Int) (H : Hid (spP x = ((k : Int), g, 0))) :
    Calls Try.prog 47 #[.pointer (some ⟨b, 0, none⟩), .int .i64 x] w fun e w' => e = .returned (.bool (l[k] == (g, true))) ∧ w = w' := by
  have c0 := h.gen k hk
  have c1 := h.taken k hk
  have h64 : k < 64 := by rw [← h.len]; exact hk
  generalize hgt : l[k] = p at c0 c1
  have HT := Lib.hid hgt
  clear hgt
  obtain ⟨g0, t⟩ := p
  simp only at c0 c1
  go_enter Try.func47, Try.ntmps47
  go_wp2_with fail
  refine (refSplit_any _ _).mono ?_
  rintro e w' ⟨rfl, rfl⟩
  rw [H.out]
  by_cases hg : g0 = g
  · subst hg
    cases t
    · go_wp2
      go_ret
      exact ⟨by simp, rfl⟩
    · go_wp2
      go_ret
      exact ⟨by simp, rfl⟩
  · have e : ((g0, t) == (g, true)) = false := by simp [hg]
    have e' : (g0 == g) = false := beq_eq_false_iff_ne.2 hg
    cases t
    · go_wp2
      go_ret
      exact ⟨by first | rfl | simp [e] | simp_all, rfl⟩
    · go_wp2
      go_ret
      exact ⟨by first | rfl | simp [e] | simp_all, rfl⟩
theorem rLive_any (b : Nat) (x : Int) (l : List (Int × Bool)) (w : World) (h : RAt w b l) :
    Calls Try.prog 47 #[.pointer (some ⟨b, 0, none⟩), .int .i64 x] w fun e w' => e = .returned (.bool (liveP l x)) ∧ w = w' := by
  by_cases hx : x < 1 ∨ 1099511627776 < x
  · rw [liveP_no hx]; exact rLive_no b x l w h hx
  · obtain ⟨k, hk⟩ := Int.eq_ofNat_of_zero_le (show 0 ≤ (x - 1) % 64 by omega)
    have hl := h.len
    have hkl : k < l.length := by omega
    rw [liveP_yes (by omega) (by omega) k hkl hk]
    exact rLive_at b x l w h k hkl ((x - 1) / 64) (by rw [spP_yes (by omega) (by omega), hk]; rfl)

theorem rFree_no (b : Nat) (x : Int) (l : List (Int × Bool)) (w : World) (h : RAt w b l) (hx : liveP l x = false) :
    Calls Try.prog 45 #[.pointer (some ⟨b, 0, none⟩), .int .i64 x] w fun e w' => e = .returned (.int .i64 131) ∧ w = w' := by
  go_enter Try.func45, Try.ntmps45
  go_wp2_with fail
  refine (rLive_any b x l _ h).mono ?_
  rintro e w' ⟨rfl, rfl⟩
  rw [hx]
  go_wp2
  go_ret
  exact ⟨rfl, rfl⟩
theorem rFree_yes (b : Nat) (x : Int) (l : List (Int × Bool)) (w : World) (h : RAt w b l) (k : Nat) (hk : k < l.length) (g : Int) (hx : liveP l x = true) (hs : spP x = ((k : Int), g, 0)) (hl : l[k] = (g, true)) (hg : 0 ≤ g ∧ g ≤ 17179869183) :
    Calls Try.prog 45 #[.pointer (some ⟨b, 0, none⟩), .int .i64 x] w fun e w' => e = .returned (.int .i64 0) ∧ RAt w' b (l.set k (g + 1, false)) ∧ w.grownBy w' (some b) := by
  have s1 := h.setTaken k hk false
  have hk1 : k < (l.set k ((l[k]).1, false)).length := by simpa using hk
  have e1 : (l.set k ((l[k]).1, false))[k] = (g, false) := by simp [hl]
  have s2 := s1.setGen k hk1 (g + 1)
  rw [e1] at s2
  have e2 : (l.set k ((l[k]).1, false)).set k (g + 1, false) = l.set k (g + 1, false) := by simp
  rw [e2] at s2
  have c1 := h.taken k hk
  have f1 := h.free (64 + k)
  have d0 := s1.gen k hk1
  have d1 := s1.free k
  rw [e1] at d0
  simp only at d0
  have h64 : k < 64 := by rw [← h.len]; exact hk
  have HL := Lib.hid hl
  have HS := Lib.hid hs
  have HX := Lib.hid hx
  clear hl hs hx s1 hk1 e1 e2
  go_enter Try.func45, Try.ntmps45
  go_wp2_with fail
  refine (rLive_any b x l _ h).mono ?_
  rintro e w' ⟨rfl, rfl⟩
  rw [HX.out]
  go_wp2_with fail
  refine (refSplit_any _ _).mono ?_
  rintro e w' ⟨rfl, rfl⟩
  rw [HS.out]
  go_wp2
  go_region
  all_goals (go_wp2; go_ret)
  have G := grown_trans (grown_setCell w b (64 + k) (.bool false)) (grown_setCell _ b k (.int .i64 (g + 1)))
  exact ⟨rfl, ⟨s2.top, s2.len⟩, ⟨G.os, G.tape, G.output, G.size, G.block⟩⟩
theorem rFree_any (b : Nat) (x : Int) (l : List (Int × Bool)) (w : World) (h : RAt w b l) (hx : liveP l x = true) :
    Calls Try.prog 45 #[.pointer (some ⟨b, 0, none⟩), .int .i64 x] w fun e w' => e = .returned (.int .i64 0) ∧ RAt w' b (l.set ((x - 1) % 64).toNat ((x - 1) / 64 + 1, false)) ∧ w.grownBy w' (some b) := by
  obtain ⟨h0, h1, k, hk, e, hl⟩ := liveP_at hx
  rw [e, Int.toNat_natCast]
  exact rFree_yes b x l w h k hk ((x - 1) / 64) hx (by rw [spP_yes h0 h1, e]) hl (by omega)
end Go.Proofs.Ytofpbiadnbbaoaa.Ids
