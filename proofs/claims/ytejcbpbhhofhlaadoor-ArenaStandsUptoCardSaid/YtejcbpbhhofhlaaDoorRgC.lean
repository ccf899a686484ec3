/- arena.Cell, Part, Clear. -/
import Derived.Test.YtejcbpbhhofhlaaDoorRgB
namespace Go.Proofs.YtejcbpbhhofhlaaDoor.Tm
open Go.RowKit
set_option linter.unusedVariables false
set_option linter.unusedSimpArgs false

def cellS (s : Option (CellD × List Int)) : CellD := match s with
  | some (c, _) => c
  | none => zeroC
def errS (s : Option (CellD × List Int)) : Int := match s with
  | some _ => 0
  | none => 31
theorem seen_form {w' : World} {O : Nat → Prop} {s : Option (CellD × List Int)} {e : Ending} (h : IsSeen w' O s e) : ∃ A n cap, e = .returned (.tuple #[(cellS s).agg, .slice A n cap, .int .i64 (errS s)]) ∧ n = (match s with | some (_, p) => p.length | none => 0) ∧ (∀ c p, s = some (c, p) → p.length ≤ cap ∧ WReads w' A p) := by
  cases s with
  | none => exact ⟨none, 0, 0, h, rfl, fun c p e => by cases e⟩
  | some r =>
    obtain ⟨c, p⟩ := r
    obtain ⟨A, cap, h1, h2, h3, _⟩ := h
    refine ⟨A, p.length, cap, h1, rfl, fun c' p' e => ?_⟩
    cases e
    exact ⟨h2, h3⟩
set_option maxHeartbeats 1000000 in
theorem acell_any (w : World) (O : Nat → Prop) (ba room : Nat) (l : List ObjA) (x : Int) (h0 : 0 ≤ x) (h1 : x < 18446744073709551616) (h : ArAt w O ba room l) :
    Calls Tryd.prog 28 #[.pointer (some ⟨ba, 0, none⟩), .int .u64 x] w fun e w' => e = .returned (.tuple #[(cellS (seenA l x)).agg, .int .i64 (errS (seenA l x))]) ∧ Below w.heap.size w w' := by
  have hB0 := below_one w (.cells #[.int .i64 0, .int .i64 0, .string ⟨#[]⟩] 37)
  have hseen := seen_any _ O ba room l x h0 h1 (h.below hB0)
  have hY := heap_new w (.cells #[.int .i64 0, .int .i64 0, .string ⟨#[]⟩] 37)
  obtain ⟨s, hs⟩ : ∃ s, seenA l x = s := ⟨_, rfl⟩
  rw [hs] at hseen ⊢
  clear hs
  go_enter Tryd.func28, Tryd.ntmps28
  go_wp2_with fail
  refine hseen.mono ?_
  rintro e w1 ⟨he, hb⟩
  obtain ⟨A, n, cap, rfl, -, -⟩ := seen_form he
  obtain ⟨c, hc⟩ : ∃ c, cellS s = c := ⟨_, rfl⟩
  obtain ⟨er, her⟩ : ∃ er, errS s = er := ⟨_, rfl⟩
  have HC := Lib.hid (⟨hc, her⟩ : cellS s = c ∧ errS s = er)
  rw [hc, her]
  rw [cell_seen_agg]
  have hB1 := below_then hB0 hb
  obtain ⟨d0, d1, d2, f0, f1, f2⟩ := loc3 hY (below_alloc' hb (.cells #[.int .i64 c.kind, .int .i64 c.n, .string c.text] 37))
  have hB2 := below_alloc' hB1 (.cells #[.int .i64 c.kind, .int .i64 c.n, .string c.text] 37)
  have HBF := Lib.hid (((hB2.setCell (p := ⟨w.heap.size, 0, none⟩) (Nat.le_refl _) (.int .i64 c.kind)).setCell (p := ⟨w.heap.size, 1, none⟩) (Nat.le_refl _) (.int .i64 c.n)).setCell (p := ⟨w.heap.size, 2, none⟩) (Nat.le_refl _) (.string c.text))
  clear hc her he
  go_wp2
  refine bodyPost_ret (v := .tuple #[.agg #[.int .i64 c.kind, .int .i64 c.n, .string c.text], .int .i64 er]) (by simp [results, Tryd.results28, go_sem, d0, d1, d2]) rfl ?_
  rw [HC.out.1, HC.out.2]
  exact ⟨rfl, HBF.out⟩
/-- What Part answers. -/
def partE (s : Option (CellD × List Int)) (i : Int) : Int := match s with
  | none => 31
  | some (c, p) => if ¬ (c.kind = 5 ∨ c.kind = 7) then 32 else if i < 0 ∨ (p.length : Int) ≤ i then 1 else 0
def partX (s : Option (CellD × List Int)) (i : Int) : Int := match s with
  | none => 0
  | some (c, p) => if partE (some (c, p)) i = 0 then p.getD i.toNat 0 else 0
set_option maxHeartbeats 2000000 in
theorem apart_any (w : World) (O : Nat → Prop) (ba room : Nat) (l : List ObjA) (x i : Int) (h0 : 0 ≤ x) (h1 : x < 18446744073709551616) (h : ArAt w O ba room l) :
    Calls Tryd.prog 29 #[.pointer (some ⟨ba, 0, none⟩), .int .u64 x, .int .i64 i] w fun e w' => e = .returned (.tuple #[.int .u64 (partX (seenA l x) i), .int .i64 (partE (seenA l x) i)]) ∧ Below w.heap.size w w' := by
  have hseen := seen_any w O ba room l x h0 h1 h
  cases hs : seenA l x with
  | none =>
    rw [hs] at hseen
    clear hs
    go_enter Tryd.func29, Tryd.ntmps29
    go_wp2_with fail
    refine hseen.mono ?_
    rintro e w1 ⟨he, hB⟩
    obtain rfl : e = _ := he
    rw [cell_seen_agg]
    go_wp2
    go_ret2
    exact ⟨rfl, below_alloc' hB _⟩
  | some r =>
    obtain ⟨c, p⟩ := r
    rw [hs] at hseen
    clear hs
    by_cases hk : c.kind = 5 ∨ c.kind = 7
    · by_cases hi : i < 0 ∨ (p.length : Int) ≤ i
      · have E := Lib.hid (show partE (some (c, p)) i = 1 by unfold partE; simp only; rw [if_neg (fun q => q hk), if_pos hi])
        have E2 := Lib.hid (show partX (some (c, p)) i = 0 by unfold partX; simp only; rw [E.out, if_neg (by omega)])
        have hkb : (c.kind != 5) = false ∨ ((c.kind != 5) = true ∧ (c.kind != 7) = false) := by
          by_cases e : c.kind = 5
          · exact .inl (by rw [e]; rfl)
          · exact .inr ⟨by simp [e], by rw [show c.kind = 7 by omega]; rfl⟩
        have hib : (i < 0 ∧ decide (i < 0) = true) ∨ (¬ i < 0 ∧ decide (i < 0) = false ∧ (p.length : Int) ≤ i ∧ decide ((p.length : Int) ≤ i) = true) := by
          by_cases e : i < 0
          · exact .inl ⟨e, decide_eq_true e⟩
          · exact .inr ⟨e, decide_eq_false e, by omega, decide_eq_true (by omega)⟩
        clear hk hi
        rcases hkb with k5 | ⟨k5, k7⟩
        all_goals
          rcases hib with ⟨hi, hib⟩ | ⟨hi, hib, hj, hjb⟩
          all_goals
            go_enter Tryd.func29, Tryd.ntmps29
            go_wp2_with fail
            refine hseen.mono ?_
            rintro e w1 ⟨⟨A, cap, rfl, hcp, hW, _⟩, hB⟩
            rw [cell_seen_agg]
            go_wp2
            go_ret2
            rw [E.out, E2.out]
            exact ⟨rfl, below_alloc' hB _⟩
      · obtain ⟨j, rfl⟩ : ∃ j : Nat, i = (j : Int) := ⟨i.toNat, by omega⟩
        have hj : j < p.length := by omega
        have E := Lib.hid (show partE (some (c, p)) (j : Int) = 0 by unfold partE; simp only; rw [if_neg (fun q => q hk), if_neg hi])
        have E2 := Lib.hid (show partX (some (c, p)) (j : Int) = p[j] by unfold partX; simp only; rw [E.out, if_pos rfl]; simp [hj])
        have hkb : (c.kind != 5) = false ∨ ((c.kind != 5) = true ∧ (c.kind != 7) = false) := by
          by_cases e : c.kind = 5
          · exact .inl (by rw [e]; rfl)
          · exact .inr ⟨by simp [e], by rw [show c.kind = 7 by omega]; rfl⟩
        have hjb : decide ((p.length : Int) ≤ (j : Int)) = false := decide_eq_false (by omega)
        have hjn : ¬ p.length ≤ j := by omega
        have hj1 : (j : Int) < (p.length : Int) := by omega
        clear hk hi
        rcases hkb with k5 | ⟨k5, k7⟩
        all_goals
          go_enter Tryd.func29, Tryd.ntmps29
          go_wp2_with fail
          refine hseen.mono ?_
          rintro e w1 ⟨⟨A, cap, rfl, hcp, hW, _⟩, hB⟩
          rw [cell_seen_agg]
          obtain ⟨g, o, rfl, hc⟩ := hW j hj
          have hc' := cell_below (below_one w1 (.cells #[.int .i64 c.kind, .int .i64 c.n, .string c.text] 37)) hc
          clear hW hc
          go_wp2
          go_ret2
          rw [E.out, E2.out]
          exact ⟨rfl, below_alloc' hB _⟩
    · have E := Lib.hid (show partE (some (c, p)) i = 32 by unfold partE; simp only; rw [if_pos hk])
      have E2 := Lib.hid (show partX (some (c, p)) i = 0 by unfold partX; simp only; rw [E.out, if_neg (by omega)])
      have k5 : (c.kind == 5) = false := beq_eq_false_iff_ne.2 (fun e => hk (.inl e))
      have k7 : (c.kind == 7) = false := beq_eq_false_iff_ne.2 (fun e => hk (.inr e))
      have k5' : (c.kind != 5) = true := by rw [bne_iff_ne]; exact fun e => hk (.inl e)
      have k7' : (c.kind != 7) = true := by rw [bne_iff_ne]; exact fun e => hk (.inr e)
      clear hk
      go_enter Tryd.func29, Tryd.ntmps29
      go_wp2_with fail
      refine hseen.mono ?_
      rintro e w1 ⟨⟨A, cap, rfl, hcp, hW, _⟩, hB⟩
      rw [cell_seen_agg]
      go_wp2
      go_ret2
      rw [E.out, E2.out]
      exact ⟨rfl, below_alloc' hB _⟩
end Go.Proofs.YtejcbpbhhofhlaaDoor.Tm
