/- The order of two terms: the program's 'compare' tells termCmp. -/
import Derived.Test.YtefpolgflimlgaaDoorCells
import Derived.Deep.RegionHeld3
import Derived.ScopeJumps
import Derived.WalkMore
import Derived.Scope
namespace Go.Proofs.YtefpolgflimlgaaDoor.Tm
open Go.RowKit
set_option linter.unusedVariables false
set_option linter.unusedSimpArgs false

/-- A label that is jumped back to: what stands ahead of it, what holds at it. -/
theorem wp_label_loop {P : Program} {pre rest : Code} {Q : Exit → Act → World → Prop} {a : Act} {w : World} (l : Nat) (J : Act → World → Prop) (μ : Act → World → Nat) (hp : findLabel pre l = none)
    (first : pre.wp P (fun e a w => e = .normal ∧ J a w) a w)
    (pass : ∀ a w, J a w → rest.wp P (Exit.jump l (fun a' w' => J a' w' ∧ μ a' w' < μ a w) Q) a w) : (Code.scope (pre.seq ((Code.label l).seq rest))).wp P Q a w := by
  have key : ∀ a w, J a w → rest.wp P (Exit.jump l J Q) a w := fun a w hJ => Code.wp_mono (fun e a' w' h => by
    cases e with
    | goto k => exact ⟨h.1, h.2.1⟩
    | _ => exact h) (pass a w hJ)
  refine wp_scope_jumps (rest := .seq .skip rest) l J μ (by simp [findLabel, hp]) ?_ ?_
  · refine wp_seq (Code.wp_mono (fun e a' w' h => ?_) first)
    obtain ⟨rfl, hJ⟩ := h
    exact wp_seq (wp_label (key a' w' hJ))
  · intro a w hJ
    exact wp_seq (wp_skip (pass a w hJ))
theorem cmp_next {l m : List CellD} {j : Nat} (h : j < l.length) (k : j < m.length) (e : cellCmp l[j] m[j] = 0) : termCmp (l.drop j) (m.drop j) = termCmp (l.drop (j + 1)) (m.drop (j + 1)) := by
  rw [List.drop_eq_getElem_cons h, List.drop_eq_getElem_cons k, termCmp, if_neg (by simp [e])]
theorem cmp_here {l m : List CellD} {j : Nat} (h : j < l.length) (k : j < m.length) (e : cellCmp l[j] m[j] ≠ 0) : termCmp (l.drop j) (m.drop j) = cellCmp l[j] m[j] := by
  rw [List.drop_eq_getElem_cons h, List.drop_eq_getElem_cons k, termCmp, if_pos e]
theorem cmp_end {l m : List CellD} {j : Nat} (h : l.length ≤ j ∨ m.length ≤ j) : termCmp (l.drop j) (m.drop j) = 0 := by
  rcases h with h | h
  · rw [List.drop_eq_nil_of_le h, termCmp]; simp
  · rw [List.drop_eq_nil_of_le h]
    cases List.drop j l <;> rw [termCmp] <;> simp
def cmpJ (l m : List CellD) (A B : Option Addr) (c1 c2 : Nat) (w : World) (a' : Act) (w' : World) : Prop :=
  ∃ (j : Nat) (u6 u7 u8 u9 u10 u11 u12 u13 u14 u15 u16 u17 u18 u19 u20 u21 u22 u23 u24 u25 u26 u27 u28 u29 u30 : Value),
    (j ≤ l.length ∧ j ≤ m.length ∧ Below w.heap.size w w' ∧ Hid (termCmp l m = termCmp (l.drop j) (m.drop j))) ∧
    a' = { tmps := #[.slice A l.length c1, .slice B m.length c2, undef, undef, .int .i64 0, .int .i64 j, u6, u7, u8, u9, u10, u11, u12, u13, u14, u15, u16, u17, u18, u19, u20, u21, u22, u23, u24, u25, u26, u27, u28, u29, u30], defers := [] }
set_option maxHeartbeats 2000000 in
theorem compare_any (l m : List CellD) (A B : Option Addr) (c1 c2 : Nat) (w : World) (hr : Reads w A l) (hr2 : Reads w B m) (hl : l.length ≤ 1000000000000000) (hm : m.length ≤ 1000000000000000) :
    Calls Tryd.prog 103 #[.slice A l.length c1, .slice B m.length c2] w fun e w' => e = .returned (.int .i64 (termCmp l m)) ∧ Below w.heap.size w w' := by
  have HR := Lib.hid hr
  have HR2 := Lib.hid hr2
  clear hr hr2
  go_enter Tryd.func103, Tryd.ntmps103
  go_wp2
  refine wp_label_loop 0 (cmpJ l m A B c1 c2 w) (fun a' _ => l.length - (intOf (a'.tmps.getD 5 undef)).toNat) rfl ?_ ?_
  · go_wp2
    exact ⟨0, _, _, _, _, _, _, _, _, _, _, _, _, _, _, _, _, _, _, _, _, _, _, _, _, _, ⟨Nat.zero_le _, Nat.zero_le _, Below.refl _ _, rfl⟩, rfl⟩
  · rintro a' wr ⟨j, u6, u7, u8, u9, u10, u11, u12, u13, u14, u15, u16, u17, u18, u19, u20, u21, u22, u23, u24, u25, u26, u27, u28, u29, u30, ⟨h1, h2, hB, hH⟩, rfl⟩
    by_cases hlt : j < l.length
    · by_cases hlt2 : j < m.length
      · obtain ⟨g1, o1, hA, c1'⟩ := HR.out j hlt
        obtain ⟨g2, o2, hBa, c2'⟩ := HR2.out j hlt2
        subst hA hBa
        obtain ⟨d0, d1, d2⟩ := c1'.below hB
        obtain ⟨e0, e1, e2⟩ := c2'.below hB
        have hi1 : (j : Int) < (l.length : Int) := by omega
        have hi2 : (j : Int) < (m.length : Int) := by omega
        have hi0 : (0 : Int) ≤ (j : Int) := Int.natCast_nonneg _
        have hb1 : decide ((l.length : Int) ≤ (j : Int)) = false := decide_eq_false (by omega)
        have hb2 : decide ((m.length : Int) ≤ (j : Int)) = false := decide_eq_false (by omega)
        have hb3 : decide (l.length ≤ j) = false := decide_eq_false (by omega)
        have hb4 : decide (m.length ≤ j) = false := decide_eq_false (by omega)
        have hN := fun e => Lib.hid (hH.out.trans (cmp_next hlt hlt2 e))
        have hE := fun e => Lib.hid (hH.out.trans (cmp_here hlt hlt2 e))
        clear c1' c2' hH
        generalize l[j] = x at *
        generalize m[j] = y at *
        go_wp2_with fail
        go_region_held3 (fun w' => w'.cell? ⟨g1, o1 + j * 3, none⟩ = some (.int .i64 x.kind) ∧ w'.cell? ⟨g1, o1 + j * 3 + 1, none⟩ = some (.int .i64 x.n) ∧ w'.cell? ⟨g1, o1 + j * 3 + 2, none⟩ = some (.string x.text) ∧
            w'.cell? ⟨g2, o2 + j * 3, none⟩ = some (.int .i64 y.kind) ∧ w'.cell? ⟨g2, o2 + j * 3 + 1, none⟩ = some (.int .i64 y.n) ∧ w'.cell? ⟨g2, o2 + j * 3 + 2, none⟩ = some (.string y.text))
          (first
            | exact ⟨cell_below hb d0, cell_below hb d1, cell_below hb d2, cell_below hb e0, cell_below hb e1, cell_below hb e2⟩
            | go_keep)
          ((go_at_call 152; refine (cells_any x y _).mono ?_; rintro e w' ⟨rfl, hb⟩))
        have hB2 := below_then hB.drew hb
        by_cases he : cellCmp x y = 0
        · have hF := hN he
          have ht : (cellCmp x y != 0) = false := by rw [bne_eq_false_iff_eq]; exact he
          clear hN hE he
          go_wp2
          go_step3
          refine ⟨rfl, ⟨j + 1, _, _, _, _, _, _, _, _, _, _, _, _, _, _, _, _, _, _, _, _, _, _, _, _, _, ⟨by omega, by omega, hB2, hF⟩, rfl⟩, ?_⟩
          simp [intOf]; omega
        · have hF := hE he
          have ht : (cellCmp x y != 0) = true := by rw [bne_iff_ne]; exact he
          clear hN hE he
          go_wp2
          simp only [Exit.jump]
          go_ret
          exact ⟨by rw [hF.out]; rfl, hB2⟩
      · have hF := Lib.hid (hH.out.trans (cmp_end (.inr (Nat.le_of_not_lt hlt2))))
        have hb1 : decide ((l.length : Int) ≤ (j : Int)) = false := decide_eq_false (by omega)
        have hb2 : decide ((m.length : Int) ≤ (j : Int)) = true := decide_eq_true (by omega)
        have hb3 : decide (l.length ≤ j) = false := decide_eq_false (by omega)
        have hb4 : decide (m.length ≤ j) = true := decide_eq_true (by omega)
        clear hH
        go_wp2
        simp only [Exit.jump]
        go_ret
        exact ⟨by rw [hF.out]; rfl, hB⟩
    · have hF := Lib.hid (hH.out.trans (cmp_end (.inl (Nat.le_of_not_lt hlt))))
      have hb1 : decide ((l.length : Int) ≤ (j : Int)) = true := decide_eq_true (by omega)
      have hb3 : decide (l.length ≤ j) = true := decide_eq_true (by omega)
      clear hH
      go_wp2
      simp only [Exit.jump]
      go_ret
      exact ⟨by rw [hF.out]; rfl, hB⟩
end Go.Proofs.YtefpolgflimlgaaDoor.Tm
