/- The reference's Elems. -/
import Derived.Test.YtfeaolnklooanaaDoorElemP
namespace Go.Proofs.YtfeaolnklooanaaDoor.Tm
open Go.RowKit
set_option linter.unusedVariables false
set_option linter.unusedSimpArgs false

def lenOf : Value → Nat
  | .slice _ n _ => n
  | _ => 0
set_option maxRecDepth 100000 in
set_option maxHeartbeats 4000000 in
theorem relems_any (t : List CellD) (A : Option Addr) (c : Nat) (w : World) (hr : Reads w A t) (hf : Fine t) (hct : t.length ≤ c) :
    Calls Tryd.prog 18 #[.slice A t.length c] w fun e w' => ∃ A' c', e = .returned (.tuple #[.slice A' (elemsE t).1.length c', .int .i64 (elemsE t).2]) ∧ SlsAt w' w.heap.size A' c' (elemsE t).1 ∧ Below w.heap.size w w' := by
  obtain ⟨i0, hi, hz0, hz1, hz2⟩ := info_parts sl_info
  have HR := Lib.hid hr
  have HF := Lib.hid hf
  have hlt := hf.lim
  clear hr hf
  go_enter Tryd.func18, Tryd.ntmps18
  go_wp2_with fail
  refine (rright_any t A c _ HR.out HF.out.text hlt).mono ?_
  rintro e w1 ⟨rfl, hB1⟩
  by_cases et : (rightE t).1 ≠ 0
  · have F := Lib.hid (el_bad et)
    have te : ((rightE t).1 != 0) = true := by rw [bne_iff_ne]; exact et
    clear et
    go_wp2
    go_ret2
    rw [F.out]
    exact ⟨none, 0, rfl, SlsAt.nil_ _ _, hB1⟩
  have et : (rightE t).1 = 0 := Decidable.not_not.1 et
  have te : ((rightE t).1 != 0) = false := by rw [bne_eq_false_iff_eq]; exact et
  have ET := Lib.hid et
  obtain ⟨hg0, hne0, hle0⟩ := rightE_ok et
  obtain ⟨b, o, hA, hcell0⟩ := HR.out 0 (by omega)
  subst hA
  have hbw : b < w.heap.size := cell_lt hcell0.1
  have HB1 := Lib.hid hB1
  clear et hcell0 hB1
  have G0 := Lib.hid hg0
  clear hg0
  go_wp2_with fail
  go_loopw [0, 6] (fun tv v wr => ∃ (rest : List CellD) (o0 c0 f : Nat) (A' : Option Addr) (c' : Nat) (vs : List Value) (E : List (List CellD)), tv = .slice (some ⟨b, o0, none⟩) rest.length c0 ∧ rest.length ≤ c0 ∧ rest.length ≤ f ∧ E.length + rest.length ≤ t.length ∧ v = .slice A' E.length c' ∧ Hid (Reads w (some ⟨b, o0, none⟩) rest) ∧ Hid (Good rest 1) ∧ Hid (E ++ (elemsL f rest).1 = (elemsL t.length t).1 ∧ (elemsL f rest).2 = (elemsL t.length t).2) ∧ Hid (wr.ownsRow w.heap.size 22 1 (.slice A' E.length c') E.length vs) ∧ Hid (Each (fun A c l => l.length ≤ c ∧ Reads w A l) vs E) ∧ Below w.heap.size w wr) (fun tv v wr => lenOf tv)
  case atStart => exact ⟨t, o, c, t.length, none, 0, [], [], rfl, hct, Nat.le_refl _, by simp, rfl, HR.out, G0, ⟨rfl, rfl⟩, row_nil _ _ _ _, Each.nil, HB1.out⟩
  case round =>
    obtain ⟨rest, o0, c0, f, A', c', vs, E, rfl, hc0, hf, hEl, rfl, hRd, hGd, hEq, hrow, hE, hB⟩ := hrel
    cases rest with
    | nil => exact absurd hGd.out (by intro h; have h0 : (1 : Int) = 0 := h; omega)
    | cons y l =>
      obtain ⟨b', o', e', hcy⟩ := hRd.out 0 (by simp)
      obtain ⟨rfl, rfl⟩ : b = b' ∧ o0 = o' := by simpa using e'
      obtain ⟨z0, z1, z2⟩ := hcy.below hB
      rw [Nat.zero_mul, Nat.add_zero] at z0
      obtain ⟨f2, rfl⟩ : ∃ f2, f = f2 + 1 := ⟨f - 1, by simp only [List.length_cons] at hf; omega⟩
      simp only [List.length_cons] at hc0 hf hEl
      have hpos : (0 : Int) < ((l.length + 1 : Nat) : Int) := by omega
      have hpos2 : (0 : Int) < (l.length : Int) + 1 := by omega
      simp only [List.getElem_cons_zero] at z0
      have hll : (y :: l).length ≤ 1024 := by simp only [List.length_cons]; omega
      clear z1 z2 e' hcy
      by_cases k7 : y.kind = 7
      · obtain ⟨s1, s2, s3, s4⟩ := el_step k7 hGd.out hll
        have e7 : (y.kind == 7) = true := by simp [k7]
        have hq := hEq.out
        rw [elemsL, if_pos k7] at hq
        have HQ := Lib.hid hq
        have S1 := Lib.hid s1
        have S2 := Lib.hid s2
        have ER := Lib.hid (right_of_good hGd.out hll)
        have HRw := Lib.hid (hRd.out.below hB)
        clear hq s1 s2 hEq hGd k7
        generalize hp : l.take (spanK l 1) = p at *
        generalize hsk : skipK l 1 = r at *
        have hpl : p.length ≤ l.length := by rw [← hp, List.length_take]; omega
        have hrl : r.length ≤ l.length := s3
        clear hp hsk s4
        go_wp2_with fail
        refine (wpartsB_any (y :: l) (some ⟨b, o0, none⟩) c0 _ HRw.out (by simpa using hc0) ER.out).mono ?_
        rw [S1.out]
        rintro e w2 ⟨A2, c2, b', o', hbb, rfl, hS2, hb2⟩
        obtain ⟨rfl, rfl⟩ : b = b' ∧ o0 = o' := by simpa using hbb
        have hB2 := below_then hB hb2
        obtain ⟨g, o1, d1, hA2, _, q0, q1, q2⟩ := hS2.cell (j := 0) (by simp)
        obtain ⟨g', o2, d2, hA2', _, r0, r1, r2⟩ := hS2.cell (j := 1) (by simp)
        subst hA2
        obtain rfl : g = g' := by simpa using hA2'
        simp only [List.getElem_cons_zero, List.getElem_cons_succ] at q0 q1 q2 r0 r1 r2
        have RP := Lib.hid (reads_same q2 (hB2.block b hbw).symm)
        have RR := Lib.hid (reads_same r2 (hB2.block b hbw).symm)
        have hrow2 := Lib.hid (row_below hrow.out hb2)
        have hcc : (w2.alloc (.cells #[.slice (some ⟨b, o1, none⟩) p.length d1] 22)).cell? ⟨w2.heap.size, 0, none⟩ = some (.slice (some ⟨b, o1, none⟩) p.length d1) := by go_cell
        have r0a := cell_below (below_one w2 (.cells #[.slice (some ⟨b, o1, none⟩) p.length d1] 22)) r0
        have hgl : g < w2.heap.size := cell_lt r0
        have HBA := Lib.hid (below_alloc' hB2 (.cells #[.slice (some ⟨b, o1, none⟩) p.length d1] 22))
        have hgA : ∀ k, (Value.slice A' E.length c').ownBlock = some k → k < wr.heap.size := row_lt hrow.out
        have hgw : wr.heap.size ≤ g := by assumption
        clear hbb hA2' hS2 hb2 q2 r2 hB
        go_wp2_with (at_builtin; refine wpList_app _ rfl (.tmp 23) (.tmp 27) _ rfl w.heap.size _ i0 _ 1 24 Tryd.underlying29 hi hz0 hz1 hz2 rfl ?a1 (.slice A' E.length c') E.length vs rfl ?a2 (some ⟨w2.heap.size, 0, none⟩) 1 1 [.slice (some ⟨b, o1, none⟩) p.length d1] rfl ?a3 ?a4 ?a5 ?a6 ?a7)
        case a1 => omega
        case a2 => exact hrow2.out.alloc _
        case a3 => exact Src.slice1 hcc rfl
        case a4 => simp only [maxLen]; omega
        case a5 => omega
        case a6 => exact HBA.out.size
        case a7 =>
          intro v2 w3 hown3 hg3 hat3
          obtain ⟨A3, c3, rfl⟩ := row_slice hown3
          have hB3 : Below w.heap.size w w3 := HBA.out.grown hg3 HBA.out.size (fun q hq => row_base hrow2.out q hq)
          have r0b : w3.cell? ⟨g, 1, none⟩ = some (.slice (some ⟨b, o2, none⟩) r.length d2) := by
            have h1 := hg3.block g (by rw [World.size_alloc]; omega) (fun e => by have := hgA g e.symm; omega)
            exact (cell_of_same (a := ⟨g, 1, none⟩) h1).trans r0a
          have HE3 := Lib.hid (show Each (fun A c l => l.length ≤ c ∧ Reads w A l) (vs ++ [.slice (some ⟨b, o1, none⟩) p.length d1]) (E ++ [p]) from hE.out.snoc ⟨q1, RP.out⟩)
          have HO3 := Lib.hid (show w3.ownsRow w.heap.size 22 1 (.slice A3 (E ++ [p]).length c3) (E ++ [p]).length (vs ++ [.slice (some ⟨b, o1, none⟩) p.length d1]) by simpa using hown3)
          have HQ3 := Lib.hid (show (E ++ [p]) ++ (elemsL f2 r).1 = (elemsL t.length t).1 ∧ (elemsL f2 r).2 = (elemsL t.length t).2 from ⟨by rw [← HQ.out.1]; simp, HQ.out.2⟩)
          clear hown3 hg3 hat3 hcc hE
          go_wp2
          go_roundw
          case rel => exact ⟨r, o2, d2, f2, A3, c3, _, E ++ [p], rfl, r1, by omega, by simp; omega, by simp, RR.out, S2.out, HQ3, HO3, HE3, hB3⟩
          case measure => simp [lenOf]; omega
      · have e7 : (y.kind == 7) = false := beq_eq_false_iff_ne.2 k7
        have hq := hEq.out
        rw [elemsL, if_neg k7] at hq
        simp only [List.append_nil] at hq
        by_cases k6 : y.kind = 6
        · have e6 : (y.kind != 6) = false := by simp [k6]
          have F := Lib.hid (el_yes ET.out (by rw [← hq.2]; simp [k6]))
          have hq1 := hq.1
          have HF2 := Lib.hid (show SlsAt wr w.heap.size A' c' E from ⟨vs, hrow.out, hE.out.mono fun _ _ _ p => ⟨p.1, p.2.below hB⟩⟩)
          have HQ := Lib.hid hq1
          clear hq hq1 k7 k6 hEq
          go_wp2
          go_ret2
          rw [F.out, ← HQ.out]
          exact ⟨A', c', rfl, HF2.out, hB⟩
        · have e6 : (y.kind != 6) = true := by simp [k6]
          have F := Lib.hid (el_no ET.out (by rw [← hq.2]; simp [k6]))
          clear hq k7 k6 hEq
          go_wp2
          go_ret2
          rw [F.out]
          exact ⟨none, 0, rfl, SlsAt.nil_ _ _, hB⟩
end Go.Proofs.YtfeaolnklooanaaDoor.Tm
