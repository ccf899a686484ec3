/- order.Sort: a copy of each term, rising. -/
import Derived.Test.YtfeaolnklooanaaDoorSrtS
import Derived.Test.YtfeaolnklooanaaDoorOPartsP
import Derived.Test.YtfeaolnklooanaaDoorOrdP
namespace Go.Proofs.YtfeaolnklooanaaDoor.Tm
open Go.RowKit Go.Proofs.YtfeaolnklooanaaDoor.Sx
set_option linter.unusedVariables false
set_option linter.unusedSimpArgs false

/-- Nothing and n = 0: no row at all. -/
theorem insertion_zero (D F : Value) (w : World) :
    Calls Tryd.prog 64 #[D, .int .i64 0, .int .i64 0, F] w fun e w' => e = .returned (.tuple #[]) ∧ w' = w := by
  go_enter Tryd.func64, Tryd.ntmps64
  go_wp2
  refine wp_loop_rounds 1 ?_
  rw [rounds_succ]
  go_wp2
  go_end0
  exact ⟨rfl, rfl⟩
theorem stable_zero (D F : Value) (w : World) :
    Calls Tryd.prog 59 #[D, .int .i64 0, F] w fun e w' => e = .returned (.tuple #[]) ∧ w' = w := by
  go_enter Tryd.func59, Tryd.ntmps59
  go_wp2
  refine wp_loop_rounds 1 ?_
  rw [rounds_succ]
  go_wp2_with fail
  refine (insertion_zero _ _ _).mono ?_
  rintro e w1 ⟨rfl, rfl⟩
  go_wp2
  refine wp_loop_rounds 1 ?_
  rw [rounds_succ]
  go_wp2
  go_end0
  exact ⟨rfl, rfl⟩
theorem sortStable_zero (A : Option Addr) (c : Nat) (F : Value) (w : World) :
    Calls Tryd.prog 50 #[.slice A 0 c, F] w fun e w' => e = .returned (.tuple #[]) ∧ w' = w := by
  go_enter Tryd.func50, Tryd.ntmps50
  go_wp2_with fail
  refine (stable_zero _ _ _).mono ?_
  rintro e w1 ⟨rfl, rfl⟩
  go_wp2
  go_end0
  exact ⟨rfl, rfl⟩
theorem sortStable_any (R : El → El → Prop) (hR : Ord R) (b n cap : Nat) (d : Nat → El) (w : World) (hrow : RowD w b n d) (hok : AllOk w b n d) (hbw : b < w.heap.size) (hn : n ≤ 10000000000000) (hcap : n ≤ cap) (htl : TellsAll R n d) :
    Calls Tryd.prog 50 #[.slice (some ⟨b, 0, none⟩) n cap, .func (.func 46) #[] #[]] w (Merged R b n 0 n d w) := by
  have H := Lib.hid (stable_any R hR b n cap d w hrow hok hbw hn hcap htl)
  clear hrow hok htl hR
  go_enter Tryd.func50, Tryd.ntmps50
  go_wp2_with fail
  refine H.out.mono ?_
  rintro e w5 ⟨d6, rfl, hR5, hS5, hT5, hg5⟩
  have H5 := Lib.hid (⟨hR5, hS5, hT5, hg5⟩ : RowD w5 b n d6 ∧ Shuf 0 n d d6 ∧ Srt R 0 n d6 ∧ Gro b w w5)
  clear hR5 hS5 hT5 hg5 H
  go_wp2
  go_end0
  exact ⟨d6, rfl, H5.out⟩
/-- The order of terms, right ones behind the others. -/
def TermR (x y : El) : Prop := ¬ (rightE x.l).1 = 0 ∨ ((rightE y.l).1 = 0 ∧ termCmp x.l y.l ≤ 0)
theorem termR_ord : Ord TermR where
  total x y := by
    unfold TermR
    by_cases hx : (rightE x.l).1 = 0
    · by_cases hy : (rightE y.l).1 = 0
      · have := (term_sides x.l y.l).turn
        by_cases h : termCmp x.l y.l ≤ 0
        · exact .inl (.inr ⟨hy, h⟩)
        · exact .inr (.inr ⟨hx, by omega⟩)
      · exact .inr (.inl hy)
    · exact .inl (.inl hx)
  trans := by
    intro x y z h k
    unfold TermR at *
    by_cases hx : (rightE x.l).1 = 0
    · obtain ⟨hy, h2⟩ := h.resolve_left (fun q => q hx)
      obtain ⟨hz, k2⟩ := k.resolve_left (fun q => q hy)
      exact .inr ⟨hz, term_trans x.l y.l z.l 1 (rightE_ok hx).1 (rightE_ok hy).1 (rightE_ok hz).1 h2 k2⟩
    · exact .inl hx
theorem termR_tells {x y : El} (hx : (rightE x.l).1 = 0) (hy : (rightE y.l).1 = 0) : termCmp y.l x.l < 0 ↔ ¬ TermR x y := by
  have := (term_sides x.l y.l).turn
  unfold TermR
  constructor
  · rintro h (k | ⟨_, k⟩)
    · exact k hx
    · omega
  · intro h
    by_cases k : termCmp x.l y.l ≤ 0
    · exact absurd (.inr ⟨hy, k⟩) h
    · omega
/-- A row behind the sort is the call's own as it was. -/
theorem row_sorted {w w' : World} {base n c g : Nat} {xs : List Value} {d : Nat → El} (h : w.ownsRow base 22 1 (.slice (some ⟨g, 0, none⟩) n c) n xs) (hg : Gro g w w') (hr : RowD w' g n d) :
    w'.ownsRow base 22 1 (.slice (some ⟨g, 0, none⟩) n c) n ((List.range n).map fun i => (d i).val) := by
  refine ⟨by simp, ?_⟩
  rcases h.2 with ⟨e, _⟩ | ⟨g', cap, cur, hv, hb, hh, h1, h2, h3, h4⟩
  · injection e with e; cases e
  · obtain ⟨rfl, rfl⟩ : g = g' ∧ c = cap := by simpa using hv
    obtain ⟨cur', e2, s2⟩ := hg.shape cur _ _ hh
    refine .inr ⟨g, c, cur', rfl, hb, e2, h1, h2, by omega, ?_⟩
    rw [Nat.mul_one]
    apply List.ext_getElem?
    intro j
    by_cases hj : j < n
    · have hc := (hr j hj).1
      simp only [World.cell?, e2] at hc
      have hc' : cur'[j]? = some (d j).val := by simpa using hc
      rw [List.getElem?_take_of_lt hj, Array.getElem?_toList, hc']
      simp [hj]
    · rw [List.getElem?_eq_none (by simp; omega), List.getElem?_eq_none (by simp; omega)]
theorem row_frozen {w : World} {base n c g : Nat} {e : TypeId} {s : Nat} {xs : List Value} (h : w.ownsRow base e s (.slice (some ⟨g, 0, none⟩) n c) n xs) (j : Nat) : w.frozen? ⟨g, j, none⟩ = false := by
  rcases h.2 with ⟨e, _⟩ | ⟨g', cap, cur, hv, hb, hh, _⟩
  · injection e with e; cases e
  · obtain ⟨rfl, rfl⟩ : g = g' ∧ c = cap := by simpa using hv
    simp [World.frozen?, hh]
end Go.Proofs.YtfeaolnklooanaaDoor.Tm
