/- Lents and KeptAll: lent copies of several terms. -/
import Derived.Test.YtefpolgflimlgaaDoorSpoil
import Derived.Test.YtefpolgflimlgaaDoorLent
import Derived.Test.YtefpolgflimlgaaDoorReads2
import Derived.Deep.RegionHeld3
namespace Go.Proofs.YtefpolgflimlgaaDoor.Tm
open Go.RowKit
set_option linter.unusedVariables false
set_option linter.unusedSimpArgs false

theorem sl_info : (Tryd.prog.info? 22).map (fun i => (i.zero, i.size, i.bytes)) = some (some (.slice none 0 0), 1, 24) := by kernel_rfl
/-- Two rows whose element types differ share no block. -/
theorem rows_ne {w : World} {b b' : Nat} {e e' : TypeId} {s s' n n' : Nat} {v v' : Value} {xs xs' : List Value} (h : w.ownsRow b e s v n xs) (k : w.ownsRow b' e' s' v' n' xs') (hne : e ≠ e') : v.ownBlock = none ∨ v.ownBlock ≠ v'.ownBlock := by
  rcases h.2 with ⟨rfl, _⟩ | ⟨g, cap, cur, rfl, _, hh, _⟩
  · exact .inl rfl
  · rcases k.2 with ⟨rfl, _⟩ | ⟨g', cap', cur', rfl, _, kk, _⟩
    · exact .inr (by simp [Value.ownBlock])
    · refine .inr fun e1 => ?_
      have : g = g' := by simpa [Value.ownBlock] using e1
      subst this
      rw [hh] at kk
      injection kk with kk
      injection kk with _ kk
      exact hne kk
/-- Slices that a row holds, each a term of the call's own with a property. -/
def Each (P : Option Addr → Nat → List CellD → Prop) (vs : List Value) (ls : List (List CellD)) : Prop :=
  vs.length = ls.length ∧ ∀ j (h : j < ls.length), ∃ A c, vs[j]? = some (.slice A ls[j].length c) ∧ P A c ls[j]
theorem Each.mono {P Q : Option Addr → Nat → List CellD → Prop} {vs : List Value} {ls : List (List CellD)} (h : Each P vs ls) (k : ∀ A c l, P A c l → Q A c l) : Each Q vs ls :=
  ⟨h.1, fun j hj => by
    obtain ⟨A, c, e, p⟩ := h.2 j hj
    exact ⟨A, c, e, k _ _ _ p⟩⟩
theorem Each.nil {P : Option Addr → Nat → List CellD → Prop} : Each P [] [] := ⟨rfl, fun j h => absurd h (Nat.not_lt_zero j)⟩
theorem Each.snoc {P : Option Addr → Nat → List CellD → Prop} {vs : List Value} {ls : List (List CellD)} {A : Option Addr} {c : Nat} {l : List CellD} (h : Each P vs ls) (p : P A c l) : Each P (vs ++ [.slice A l.length c]) (ls ++ [l]) := by
  refine ⟨by simp [h.1], fun j hj => ?_⟩
  by_cases e : j < ls.length
  · obtain ⟨A', c', e1, p1⟩ := h.2 j e
    refine ⟨A', c', ?_, ?_⟩
    · rw [List.getElem_append_left e, List.getElem?_append_left (by rw [h.1]; exact e)]; exact e1
    · rw [List.getElem_append_left e]; exact p1
  · have : j = ls.length := by simp at hj; omega
    subst this
    refine ⟨A, c, ?_, ?_⟩
    · rw [List.getElem?_append_right (by rw [h.1]; exact Nat.le_refl _)]; simp [h.1]
    · simpa using p
theorem Each.one {P : Option Addr → Nat → List CellD → Prop} {vs : List Value} {ls : List (List CellD)} (h : Each P vs ls) : ∀ u ∈ vs, u.oneCell' = true := by
  intro u hu
  obtain ⟨j, hj, rfl⟩ := List.mem_iff_getElem.1 hu
  obtain ⟨A, c, e, _⟩ := h.2 j (by rw [← h.1]; exact hj)
  rw [List.getElem?_eq_getElem hj] at e
  injection e with e
  rw [e]; rfl
theorem slice_one (A : Option Addr) (n c : Nat) : ∀ u ∈ [Value.slice A n c], u.oneCell' = true := by simp [Value.oneCell']
theorem row_cell1 {w : World} {base n c g : Nat} {e : TypeId} {xs : List Value} (h : w.ownsRow base e 1 (.slice (some ⟨g, 0, none⟩) n c) n xs) {j : Nat} {u : Value} (hu : xs[j]? = some u) : w.cell? ⟨g, j, none⟩ = some u := by
  have hj : j < xs.length := (List.getElem?_eq_some_iff.1 hu).1
  rw [h.cellAt j (by rw [← h.1]; exact hj)]; exact hu
/-- A row whose slices read as terms reads as those. -/
theorem Reads2.of_row {w : World} {base n c : Nat} {A : Option Addr} {e : TypeId} {vs rest : List Value} {ls : List (List CellD)} {P : Option Addr → Nat → List CellD → Prop} (h : w.ownsRow base e 1 (.slice A n c) n (vs ++ rest)) (hE : Each P vs ls)
    (hP : ∀ A c l, P A c l → l.length ≤ c ∧ Reads w A l) : Reads2 w A ls := fun j hj => by
  obtain ⟨Aj, cj, e1, p⟩ := hE.2 j hj
  have hv : j < vs.length := by rw [hE.1]; exact hj
  have hn : 0 < n := by have := h.1; simp at this; omega
  obtain ⟨g, rfl, _, _⟩ := row_form h hn
  refine ⟨g, 0, rfl, Aj, cj, ?_, (hP _ _ _ p).1, (hP _ _ _ p).2⟩
  rw [Nat.zero_add]
  exact row_cell1 h (by rw [List.getElem?_append_left hv]; exact e1)
/-- What append takes one slice from. -/
theorem Src.slice1 {w : World} {b : Nat} {v : Value} (h : w.cell? ⟨b, 0, none⟩ = some v) (h1 : v.oneCell' = true) : Src w 1 (some ⟨b, 0, none⟩) 1 [v] :=
  { len := rfl
    nil := fun e => by cases e
    at_ := fun ad e j u hj => by
      cases e
      have hz : j = 0 := by
        have := (List.getElem?_eq_some_iff.1 hj).1
        simpa using this
      subst hz
      have e2 : ((⟨b, 0, none⟩ : Addr).add 0) = ⟨b, 0, none⟩ := by unfold Addr.add; simp
      rw [e2]
      simp at hj
      rw [← hj]; exact h
    one := by simpa using h1 }
/-- Lent copies. -/
def LentsAt (w : World) (base : Nat) (A : Option Addr) (cap : Nat) (ls : List (List CellD)) : Prop :=
  ∃ (vs : List Value) (Am : Option Addr) (cm : Nat), w.ownsRow base 22 1 (.slice A (ls.length + 1) cap) (ls.length + 1) (vs ++ [.slice Am 1 cm]) ∧ Each (fun A c l => LentAt w base A c l) vs ls ∧ Reads w Am [markC]
theorem LentsAt.below {w W : World} {base cap : Nat} {A : Option Addr} {ls : List (List CellD)} (h : LentsAt w base A cap ls) (hB : Below w.heap.size w W) : LentsAt W base A cap ls := by
  obtain ⟨vs, Am, cm, h1, h2, h3⟩ := h
  exact ⟨vs, Am, cm, row_below h1 hB, h2.mono fun _ _ _ p => p.below hB, h3.below hB⟩
theorem LentAt.lenCap {w : World} {base cap : Nat} {A : Option Addr} {l : List CellD} (h : LentAt w base A cap l) : l.length ≤ cap := by have := row_cap h.row; omega
theorem LentsAt.reads {w : World} {base cap : Nat} {A : Option Addr} {ls : List (List CellD)} (h : LentsAt w base A cap ls) : Reads2 w A ls := by
  obtain ⟨vs, Am, cm, h1, h2, h3⟩ := h
  exact Reads2.of_row h1 h2 fun _ _ _ p => ⟨p.lenCap, p.reads⟩
theorem LentsAt.cap_ {w : World} {base cap : Nat} {A : Option Addr} {ls : List (List CellD)} (h : LentsAt w base A cap ls) : ls.length + 1 ≤ cap := by
  obtain ⟨vs, Am, cm, h1, h2, h3⟩ := h
  exact row_cap h1
set_option maxHeartbeats 2000000 in
theorem lents_any (ls : List (List CellD)) (A : Option Addr) (cap : Nat) (w : World) (hr : Reads2 w A ls) (hf : Fine2 ls) (hl : (ls.length + 1) * 24 ≤ 140737488355328) :
    Calls Tryd.prog 30 #[.slice A ls.length cap] w fun e w' => ∃ A' cap', e = .returned (.slice A' ls.length cap') ∧ LentsAt w' w.heap.size A' cap' ls ∧ Below w.heap.size w w' := by
  obtain ⟨i0, hi, hz0, hz1, hz2⟩ := info_parts sl_info
  have HR := Lib.hid hr
  have HF := Lib.hid hf
  clear hr hf
  go_enter Tryd.func30, Tryd.ntmps30
  go_wp2_with fail
  go_loopw [3, 4] (fun v i wr => ∃ (j : Nat) (A' : Option Addr) (c' : Nat) (vs : List Value), j ≤ ls.length ∧ i = .int .i64 j ∧ v = .slice A' j c' ∧ Hid (wr.ownsRow w.heap.size 22 1 (.slice A' j c') j vs) ∧ Hid (Each (fun A c l => LentAt wr w.heap.size A c l) vs (ls.take j)) ∧ Below w.heap.size w wr) (fun v i wr => ls.length - (intOf i).toNat)
  case atStart => exact ⟨0, none, 0, [], Nat.zero_le _, rfl, rfl, row_nil _ _ _ _, by rw [List.take_zero]; exact Each.nil, Below.refl _ _⟩
  case round =>
    obtain ⟨j, A', c', vs, hj, rfl, rfl, hrow, hE, hB⟩ := hrel
    by_cases hlt : j < ls.length
    · obtain ⟨b, o, hA, Aj, cj, q0, q1, q2⟩ := HR.out j hlt
      subst hA
      have q0' := cell_below hB q0
      have hfj := (HF.out j hlt).len
      have hi1 : (j : Int) < (ls.length : Int) := by omega
      have hi0 : (0 : Int) ≤ (j : Int) := Int.natCast_nonneg _
      clear q0
      go_wp2_with fail
      refine (lent_any ls[j] Aj cj _ (q2.below hB) (by omega)).mono ?_
      rintro e w1 ⟨A1, c1, rfl, hL, hb1⟩
      have hB1 := below_then hB hb1
      have HL := Lib.hid (show LentAt w1 w.heap.size A1 c1 ls[j] from ⟨row_mono hL.row hB.size⟩)
      have hrow1 := Lib.hid (row_below hrow.out hb1)
      have hE1 := Lib.hid (hE.out.mono fun _ _ _ p => p.below hb1)
      have hc0 : (w1.alloc (.cells #[.slice A1 ls[j].length c1] 22)).cell? ⟨w1.heap.size, 0, none⟩ = some (.slice A1 ls[j].length c1) := by go_cell
      clear hL hrow hE
      go_wp2_with (at_builtin; refine wpList_app _ rfl (.tmp 11) (.tmp 17) _ rfl w.heap.size _ i0 _ 1 24 Tryd.underlying29 hi hz0 hz1 hz2 rfl ?a1 (.slice A' j c') j vs rfl ?a2 (some ⟨w1.heap.size, 0, none⟩) 1 1 [.slice A1 ls[j].length c1] rfl ?a3 ?a4 ?a5 ?a6 ?a7)
      case a1 => omega
      case a2 => exact hrow1.out.alloc _
      case a3 => exact Src.slice1 hc0 rfl
      case a4 => simp only [maxLen]; omega
      case a5 => omega
      case a6 => rw [World.size_alloc]; have := hB1.size; omega
      case a7 =>
        intro v2 w2 hown2 hg2 hat2
        obtain ⟨A2, c2, rfl⟩ := row_slice hown2
        have hB2 : Below w.heap.size w w2 := (below_alloc' hB1 _).grown hg2 (below_alloc' hB1 _).size (fun q hq => row_base hrow1.out q hq)
        have hne : ∀ {A c l}, LentAt w1 w.heap.size A c l → LentAt w2 w.heap.size A c l := fun p => by
          have h1 := p.row.alloc (.cells #[.slice A1 ls[j].length c1] 22)
          have h2 := hrow1.out.alloc (.cells #[.slice A1 ls[j].length c1] 22)
          exact ⟨h1.kept hg2 (rows_ne h1 h2 (by decide))⟩
        have hE2 : Each (fun A c l => LentAt w2 w.heap.size A c l) (vs ++ [.slice A1 ls[j].length c1]) (ls.take (j + 1)) := by
          rw [List.take_succ_eq_append_getElem hlt]
          exact (hE1.out.mono fun _ _ _ p => hne p).snoc (hne HL.out)
        have HE2 := Lib.hid hE2
        have HO2 := Lib.hid hown2
        clear hE2 hown2 hat2 hc0
        go_wp2
        go_roundw
        case rel => exact ⟨j + 1, A2, c2, _, by omega, by go_num, rfl, HO2, HE2, hB2⟩
        case measure => simp [intOf]; omega
    · obtain rfl : j = ls.length := by omega
      have hm0 : Reads (wr.alloc (.cells #[.int .i64 0, .int .i64 0, .string markT] 32)) (some ⟨wr.heap.size, 0, none⟩) [markC] := reads_new wr rfl
      have hm1 := hm0.below (below_one _ (.cells #[.slice (some ⟨wr.heap.size, 0, none⟩) 1 1] 22))
      have HM := Lib.hid hm1
      have hcc : ((wr.alloc (.cells #[.int .i64 0, .int .i64 0, .string markT] 32)).alloc (.cells #[.slice (some ⟨wr.heap.size, 0, none⟩) 1 1] 22)).cell? ⟨wr.heap.size + 1, 0, none⟩ = some (.slice (some ⟨wr.heap.size, 0, none⟩) 1 1) := by go_cell
      have HCC := Lib.hid hcc
      have hBa := below_alloc' (below_alloc' hB (.cells #[.int .i64 0, .int .i64 0, .string markT] 32)) (.cells #[.slice (some ⟨wr.heap.size, 0, none⟩) 1 1] 22)
      have HBA := Lib.hid hBa
      have hrA := Lib.hid ((hrow.out.alloc (.cells #[.int .i64 0, .int .i64 0, .string markT] 32)).alloc (.cells #[.slice (some ⟨wr.heap.size, 0, none⟩) 1 1] 22))
      have hEA := Lib.hid (hE.out.mono fun _ _ _ p => (p.below (below_one _ (.cells #[.int .i64 0, .int .i64 0, .string markT] 32))).below (below_one _ (.cells #[.slice (some ⟨wr.heap.size, 0, none⟩) 1 1] 22)))
      clear hm0 hm1 hcc hBa
      go_wp2_with (at_builtin; refine wpList_app _ rfl (.tmp 19) (.tmp 22) _ rfl w.heap.size _ i0 _ 1 24 Tryd.underlying29 hi hz0 hz1 hz2 rfl ?b1 (.slice A' ls.length c') ls.length vs rfl ?b2 (some ⟨wr.heap.size + 1, 0, none⟩) 1 1 [.slice (some ⟨wr.heap.size, 0, none⟩) 1 1] rfl ?b3 ?b4 ?b5 ?b6 ?b7)
      case b1 => omega
      case b2 => exact hrA.out
      case b3 => exact Src.slice1 HCC.out rfl
      case b4 => simp only [maxLen]; omega
      case b5 => omega
      case b6 => exact HBA.out.size
      case b7 =>
        intro v2 w2 hown2 hg2 hat2
        obtain ⟨A2, c2, rfl⟩ := row_slice hown2
        have hcap := row_cap hown2
        have hB2 : Below w.heap.size w w2 := HBA.out.grown hg2 HBA.out.size (fun q hq => row_base hrA.out q hq)
        have hL : LentsAt w2 w.heap.size A2 c2 ls := by
          refine ⟨vs, _, _, hown2, ?_, ?_⟩
          · rw [List.take_length] at hEA
            exact hEA.out.mono fun _ _ _ p => ⟨p.row.kept hg2 (rows_ne p.row hrA.out (by decide))⟩
          · refine HM.out.kept hg2 (fun b o e => ?_)
            have e1 : b = wr.heap.size := by have := e.symm; simp at this; exact this.1
            intro e2
            have e3 := row_lt hrow.out b (by rw [← e2])
            omega
        have HL := Lib.hid hL
        clear hown2 hg2 hat2 hL
        go_wp2
        go_ret
        exact ⟨A2, c2, rfl, HL.out, hB2⟩
set_option maxHeartbeats 2000000 in
theorem keptAll_any (ls : List (List CellD)) (A B : Option Addr) (base cap cap2 : Nat) (w : World) (h : LentsAt w base A cap ls) (hr : Reads2 w B ls) (hf : Fine2 ls) (hl : (ls.length + 1) * 24 ≤ 140737488355328) :
    Calls Tryd.prog 38 #[.slice A ls.length cap, .slice B ls.length cap2] w fun e w' => e = .returned (.bool true) ∧ Below w.heap.size w w' := by
  have hcap := h.cap_
  have HL := Lib.hid h
  have HR := Lib.hid hr
  have HF := Lib.hid hf
  clear h hr hf
  go_enter Tryd.func38, Tryd.ntmps38
  go_wp2_with fail
  go_loopw [5] (fun i wr => ∃ j : Nat, j ≤ ls.length ∧ i = .int .i64 j ∧ Below w.heap.size w wr) (fun i wr => ls.length - (intOf i).toNat)
  case atStart => exact ⟨0, Nat.zero_le _, rfl, Below.refl _ _⟩
  case round =>
    obtain ⟨j, hj, rfl, hB⟩ := hrel
    by_cases hlt : j < ls.length
    · obtain ⟨vs, Am, cm, h1, h2, h3⟩ := HL.out.below hB
      obtain ⟨A1, c1, e1, hLj⟩ := h2.2 j hlt
      obtain ⟨g, rfl, hgb, hgl⟩ := row_form h1 (by omega)
      have p0 := row_cell1 h1 (j := j) (u := .slice A1 ls[j].length c1) (by rw [List.getElem?_append_left (by rw [h2.1]; exact hlt)]; exact e1)
      obtain ⟨b, o, hA, Aj, cj, q0, q1, q2⟩ := HR.out j hlt
      subst hA
      have q0' := cell_below hB q0
      have HLj := Lib.hid (show LentAt wr.drew base A1 c1 ls[j] from ⟨hLj.row.drew⟩)
      have Q2 := Lib.hid (q2.below hB.drew)
      have hfj := (HF.out j hlt).len
      have hi1 : (j : Int) < (ls.length : Int) := by omega
      have hi0 : (0 : Int) ≤ (j : Int) := Int.natCast_nonneg _
      clear q0 q2 h1 h2 h3 e1 hLj
      go_wp2_with fail
      go_region_held3 (fun w' => w'.cell? ⟨g, j, none⟩ = some (.slice A1 ls[j].length c1) ∧ w'.cell? ⟨b, o + j, none⟩ = some (.slice Aj ls[j].length cj))
        (first
          | exact ⟨cell_below hbc p0, cell_below hbc q0'⟩
          | go_keep)
        ((go_at_call 56; refine (kept_any ls[j] A1 Aj base c1 cj _ HLj.out Q2.out (by omega)).mono ?_; rintro e wc ⟨rfl, hbc⟩))
      have hB2 := below_then hB.drew hbc
      go_wp2
      go_roundw
      case rel => exact ⟨j + 1, by omega, by go_num, hB2⟩
      case measure => simp [intOf]; omega
    · obtain rfl : j = ls.length := by omega
      obtain ⟨vs, Am, cm, h1, h2, h3⟩ := HL.out.below hB
      obtain ⟨g, rfl, hgb, hgl⟩ := row_form h1 (by omega)
      have p0 := row_cell1 h1 (j := ls.length) (u := .slice Am 1 cm) (by rw [List.getElem?_append_right (by rw [h2.1]; exact Nat.le_refl _)]; simp [h2.1])
      obtain ⟨bm, om, rfl, m0, m1, m2⟩ := h3 0 (by simp)
      have hm : wr.cell? ⟨bm, om + 2, none⟩ = some (.string ⟨#[98, 101, 104, 105, 110, 100, 32, 119, 104, 97, 116, 32, 119, 97, 115, 32, 104, 97, 110, 100, 101, 100, 32, 105, 110]⟩) := by simpa [markC, markT] using m2
      have hi0 : (0 : Int) ≤ (ls.length : Int) := Int.natCast_nonneg _
      have hi1 : (ls.length : Int) + 1 ≤ (cap : Int) := by omega
      clear h1 h2 h3 m0 m1 m2
      go_wp2
      go_ret
      exact ⟨rfl, hB⟩
end Go.Proofs.YtefpolgflimlgaaDoor.Tm
