/- order.Elems. -/
import Derived.Deep.AppendLies
import Derived.Deep.RegionLaw
import Derived.Test.YtfeaolnklooanaaDoorRElem
import Derived.Test.YtfeaolnklooanaaDoorMet
namespace Go.Proofs.YtfeaolnklooanaaDoor.Tm
open Go.RowKit
set_option linter.unusedVariables false
set_option linter.unusedSimpArgs false

theorem clone_at (l : List CellD) (n : Nat) (hn : l.length = n) (A : Option Addr) (c : Nat) (w : World) (hr : Reads w A l) (hl : l.length * 32 ≤ 140737488355328) :
    Calls Tryd.prog 36 #[.slice A n c] w (IsTerm w l) := by
  subst hn
  exact clone_any l A c w hr hl
/-- What Elems hands back where it is a list. -/
def ElemsAt (w : World) (lo b0 : Nat) (ls : List (List CellD)) : Prop :=
  ∃ A c vs, w.cell? ⟨b0, 0, none⟩ = some (.slice A ls.length c) ∧ w.ownsRow lo 22 1 (.slice A ls.length c) ls.length vs ∧ Each (fun A c l => RowIs w lo A c l) vs ls
set_option maxRecDepth 100000 in
set_option maxHeartbeats 8000000 in
theorem oelems_any (t : List CellD) (A : Option Addr) (ct : Nat) (w : World) (hr : Reads w A t) (hf : Fine t) (hct : t.length ≤ ct) (hT : Tabs w) :
    Calls Tryd.prog 17 #[.slice A t.length ct] w fun e w' => ((elemsE t).2 ≠ 0 ∧ e = .returned (.tuple #[.nilFunc, .int .i64 (elemsE t).2]) ∨ (elemsE t).2 = 0 ∧ ∃ b0, w.heap.size ≤ b0 ∧ e = .returned (.tuple #[.func (.func 40) #[] #[.pointer (some ⟨b0, 0, none⟩)], .int .i64 0]) ∧ ElemsAt w' w.heap.size b0 (elemsE t).1) ∧ Below w.heap.size w w' := by
  obtain ⟨i0, hi, hz0, hz1, hz2⟩ := info_parts sl_info
  have HR := Lib.hid hr
  have HF := Lib.hid hf
  have HTT := Lib.hid hT
  have HS := Lib.hid (slAt_new1 (t := 22) hr hct)
  have HF1 := Lib.hid (show Fine2 [t] from fun j hj => by have : j = 0 := by simpa using hj
                                                          subst this; exact hf)
  clear hr hf hT
  go_enter Tryd.func17, Tryd.ntmps17
  go_wp2_with fail
  refine (wrong_any [t] _ 1 _ HS.out HF1.out (by simp) (Utf8Tabs_below HTT.out (below_one _ _))).mono ?_
  rw [wrong_one]
  rintro e w1 ⟨rfl, hb1⟩
  have hB1 := below_then (below_one _ _) hb1
  clear hb1
  by_cases et : (rightE t).1 ≠ 0
  · have F := Lib.hid (el_bad et)
    have F2 := Lib.hid et
    have te : ((rightE t).1 != 0) = true := by rw [bne_iff_ne]; exact et
    clear et
    go_wp2
    go_ret2
    rw [F.out]
    exact ⟨.inl ⟨F2.out, rfl⟩, hB1⟩
  have et : (rightE t).1 = 0 := Decidable.not_not.1 et
  have te : ((rightE t).1 != 0) = false := by rw [bne_eq_false_iff_eq]; exact et
  have ET := Lib.hid et
  obtain ⟨hg0, hne0, hle0⟩ := rightE_ok et
  obtain ⟨b, o, hA, hcell0⟩ := HR.out 0 (by omega)
  subst hA
  have hbw : b < w.heap.size := cell_lt hcell0.1
  have hw1 := hB1.size
  have HBa := Lib.hid (below_alloc' hB1 (.cells #[.slice none 0 0] 29))
  have BX := Lib.hid (Boxed.new w1 29 (.slice none 0 0))
  clear et hcell0 hB1
  have G0 := Lib.hid hg0
  clear hg0
  go_wp2_with fail
  go_loopw [6] (fun a wr => ∃ (m f : Nat) (A' : Option Addr) (c' : Nat) (vs : List Value) (E : List (List CellD)), a = .int .i64 m ∧ m < t.length ∧ t.length - m ≤ f ∧ E.length ≤ m ∧ Hid (Good (t.drop m) 1) ∧ Hid (E ++ (elemsL f (t.drop m)).1 = (elemsL t.length t).1 ∧ (elemsL f (t.drop m)).2 = (elemsL t.length t).2) ∧ Hid (Boxed wr w1.heap.size 29 (.slice A' E.length c')) ∧ Hid (wr.ownsRow w.heap.size 22 1 (.slice A' E.length c') E.length vs) ∧ Hid (Each (fun A c l => RowIs wr w.heap.size A c l) vs E) ∧ Below w.heap.size w wr) (fun a wr => t.length - (intOf a).toNat)
  case atStart => exact ⟨0, t.length, none, 0, [], [], rfl, by omega, by omega, by simp, by rw [List.drop_zero]; exact G0, by rw [List.drop_zero]; exact ⟨rfl, rfl⟩, BX.out, row_nil _ _ _ _, Each.nil, HBa.out⟩
  case round =>
    obtain ⟨m, f, A', c', vs, E, rfl, hm, hf, hEl, hGd, hEq, hbx, hrow, hE, hB⟩ := hrel
    clear G0
    obtain ⟨b', o', e', htc⟩ := HR.out m hm
    obtain ⟨rfl, rfl⟩ : b = b' ∧ o = o' := by simpa using e'
    obtain ⟨z0, z1, z2⟩ := htc.below hB
    have hi1 : (m : Int) < (t.length : Int) := by omega
    have hi0 : (0 : Int) ≤ (m : Int) := Int.natCast_nonneg _
    have hd := List.drop_eq_getElem_cons hm
    obtain ⟨f2, rfl⟩ : ∃ f2, f = f2 + 1 := ⟨f - 1, by omega⟩
    have hq := hEq.out
    have hg := hGd.out
    rw [hd] at hq hg
    clear e' htc z1 z2
    generalize hy : t[m] = y at *
    by_cases k7 : y.kind = 7
    · have hlen : (y :: t.drop (m + 1)).length ≤ 1024 := by rw [← hd, List.length_drop]; omega
      obtain ⟨s1, s2, s3, s4⟩ := el_step k7 hg hlen
      have e7 : (y.kind == 7) = true := by simp [k7]
      rw [elemsL, if_pos k7] at hq
      have hgg : Good (t.drop (m + 1)) 2 := by have := hg.2.2; rw [kids7 k7] at this; simpa using this
      have hm1 : m + 1 < t.length := by
        rcases Nat.lt_or_ge (m + 1) t.length with h1 | h1
        · exact h1
        · exact absurd (List.drop_eq_nil_of_le h1) (hgg.wf.ne (by omega))
      obtain ⟨hE1, hE2, hE3⟩ := endE_suffix hgg.wf (by omega) hm1
      have hsk := drop_span (l := t) (m + 1) 1
      generalize hM : m + 1 + spanK (t.drop (m + 1)) 1 = m2 at *
      rw [← hsk] at hq s2
      have hm2 : m2 < t.length := by
        rcases Nat.lt_or_ge m2 t.length with h1 | h1
        · exact h1
        · exact absurd (List.drop_eq_nil_of_le h1) (s2.wf.ne (by omega))
      have hE1' : endE t ((m : Int) + 1) = ((m2 : Int), 0) := by
        have e : ((m + 1 : Nat) : Int) = (m : Int) + 1 := by omega
        rw [← e]; exact hE1
      have hpn : ((t.drop (m + 1)).take (spanK (t.drop (m + 1)) 1)).length = m2 - (m + 1) := by rw [List.length_take, List.length_drop]; omega
      obtain ⟨part, hpart⟩ : ∃ part, (t.drop (m + 1)).take (spanK (t.drop (m + 1)) 1) = part := ⟨_, rfl⟩
      have HRP := Lib.hid (show Reads w (some ⟨b, o + (m + 1) * 3, none⟩) part from by rw [← hpart]; exact (HR.out.drop (m + 1)).take _)
      rw [hpart] at hq hpn
      have HPN := Lib.hid hpn
      have HQ := Lib.hid hq
      have S2 := Lib.hid s2
      have hpl : part.length ≤ 1024 := by omega
      clear hg hq s1 s2 s3 s4 hE1 hsk hM hpart hpn hgg hEq hGd k7 hd hy hlen
      go_wp2_with fail
      refine (wend_any t (some ⟨b, o, none⟩) ct ((m : Int) + 1) _ (HR.out.below hB) (by omega) (by omega)).mono ?_
      rw [hE1']
      rintro e w3 ⟨rfl, hb3⟩
      have HB3 := Lib.hid (below_then hB hb3)
      have HX3 := Lib.hid (show Boxed w3 w1.heap.size 29 (.slice A' E.length c') from (hb3.block _ hbx.out.lt).trans hbx.out)
      have HR3 := Lib.hid (row_below hrow.out hb3)
      have HE3 := Lib.hid (hE.out.mono fun _ _ _ p => row_below p hb3)
      have HRP3 := Lib.hid (HRP.out.below HB3.out)
      have q0 := HX3.out.cell
      have hjm : (m : Int) + 1 ≤ (m2 : Int) := by omega
      have hmc : (m2 : Int) ≤ (ct : Int) := by omega
      have hjc : ¬ ct = m + 1 := by omega
      have hj0 : (0 : Int) ≤ (m : Int) + 1 := by omega
      have htn : ((m : Int) + 1).toNat = m + 1 := by omega
      have hwr : IntKind.i64.wrap ((m : Int) + 1) = (m : Int) + 1 := by simp [IntKind.wrap, IntKind.signed, IntKind.bits]; omega
      have hsl : ∀ W : World, (Instr.slice 22 (.slice (some ⟨b, o, none⟩) t.length ct) (some (.int .i64 ((m : Int) + 1))) (some (.int .i64 (m2 : Int))) none).run Tryd.prog W = .ok (.slice (some ⟨b, o + (m + 1) * 3, none⟩) (m2 - (m + 1)) (ct - (m + 1))) W := fun W => by
        simp [go_sem, hj0, hjm, hmc, hjc, htn]
      clear hb3 hbx hrow hE hE1' z0 HRP hB
      go_wp2_with fail
      go_region_law (first
          | (refine step_append_lies _ (by rfl) _ _ _ (by rfl) w.heap.size 22 i0 _ 1 24 Tryd.underlying29 hi hz0 hz1 hz2 rfl (by omega) (.slice A' E.length c') E.length vs (by rfl) ((row_below HR3.out (below_then ((Below.refl _ _).drew) hbc)).alloc _) ⟨wc.heap.size, 0, none⟩ 1 1 [.slice A5 part.length c5] (by rfl) (by rfl) (World.news_of_block (cs := #[.slice A5 part.length c5]) (t := 22) (fr := (0, 0)) (heap_alloc_new wc _)) (by simp [Value.oneCell']) (by omega) (by unfold maxLen; omega) (by omega) (by simp; have := HB3.out.size; have := hbc.size; simp at this; omega) (wc.heap.size + 1) (by simp) ?_; intro g cap w4 hown4 hgrow hat hlt; have HX4 := Lib.hid (((show Boxed wc w1.heap.size 29 (.slice A' E.length c') from (hbc.block _ HX3.out.lt).trans HX3.out).alloc _).kept hgrow (HX3.out.not_row (by decide) HR3.out)); have t2 := HX4.out.cell; have t3 := HX4.out.frozen)
          | (go_simp; go_at_call 36; refine (clone_at part (m2 - (m + 1)) HPN.out (some ⟨b, o + (m + 1) * 3, none⟩) (ct - (m + 1)) _ (HRP3.out.below ((Below.refl _ _).drew)) (by omega)).mono ?_; rintro e wc ⟨A5, c5, rfl, hown5⟩; have hbc := hown5.bel; have t9 := cell_below hbc q0; have t10 := cell_below (below_one wc (.cells #[.slice A5 part.length c5] 22)) t9))
      all_goals
        have hB5 : Below w.heap.size w (wc.alloc (.cells #[.slice A5 part.length c5] 22)) := below_alloc' (below_then HB3.out.drew hbc) _
        have hrowA := (row_below HR3.out (below_then ((Below.refl _ _).drew) hbc)).alloc (.cells #[.slice A5 part.length c5] 22)
        have hB4 : Below w.heap.size w w4 := hB5.grown hgrow hB5.size (fun q hq => row_base HR3.out q hq)
        have hkeep : ∀ A c l, RowIs wc w.heap.size A c l → RowIs (w4.setCell ⟨w1.heap.size, 0, none⟩ (.slice (some ⟨g, 0, none⟩) (E.length + 1) cap)) w.heap.size A c l := fun A c l hr => by
          have r1 := World.ownsRow.alloc hr (.cells #[.slice A5 part.length c5] 22)
          have r2 : RowIs w4 w.heap.size A c l := World.ownsRow.kept r1 hgrow (rows_ne r1 hrowA (by decide))
          exact row_box HX4.out (by decide) r2
        have EE := Lib.hid (show Each (fun A c l => RowIs (w4.setCell ⟨w1.heap.size, 0, none⟩ (.slice (some ⟨g, 0, none⟩) (E.length + 1) cap)) w.heap.size A c l) (vs ++ [.slice A5 part.length c5]) (E ++ [part]) from
          (HE3.out.mono fun A c l p => hkeep A c l (row_below (show w3.drew.ownsRow _ _ _ _ _ _ from p) hbc)).snoc (hkeep A5 c5 part (row_mono hown5.row HB3.out.size)))
        have BX5 := Lib.hid (show Boxed (w4.setCell ⟨w1.heap.size, 0, none⟩ (.slice (some ⟨g, 0, none⟩) (E.length + 1) cap)) w1.heap.size 29 (.slice (some ⟨g, 0, none⟩) (E ++ [part]).length cap) by have := HX4.out.set (.slice (some ⟨g, 0, none⟩) (E.length + 1) cap); simpa using this)
        have RW5 := Lib.hid (show (w4.setCell ⟨w1.heap.size, 0, none⟩ (.slice (some ⟨g, 0, none⟩) (E.length + 1) cap)).ownsRow w.heap.size 22 1 (.slice (some ⟨g, 0, none⟩) (E ++ [part]).length cap) (E ++ [part]).length (vs ++ [.slice A5 part.length c5]) by have := row_box (u := .slice (some ⟨g, 0, none⟩) (E.length + 1) cap) HX4.out (by decide) hown4; simpa using this)
        have hB6 := hB4.setCell (p := ⟨w1.heap.size, 0, none⟩) hw1 (.slice (some ⟨g, 0, none⟩) (E.length + 1) cap)
        have HQ5 := Lib.hid (show (E ++ [part]) ++ (elemsL f2 (t.drop m2)).1 = (elemsL t.length t).1 ∧ (elemsL f2 (t.drop m2)).2 = (elemsL t.length t).2 from ⟨by rw [List.append_assoc]; exact HQ.out.1, HQ.out.2⟩)
        clear hown4 hgrow hat hlt t2 t3 t9 t10 hown5 hbc hrowA hB4 hB5 hkeep q0 hsl
        go_wp2
        go_roundw
        case rel => exact ⟨m2, f2, _, cap, _, E ++ [part], rfl, hm2, by omega, by simp; omega, S2, HQ5, BX5, RW5, EE, hB6⟩
        case measure => simp [intOf]; omega
    · have e7 : (y.kind == 7) = false := beq_eq_false_iff_ne.2 k7
      rw [elemsL, if_neg k7] at hq
      simp only [List.append_nil] at hq
      by_cases k6 : y.kind = 6
      · have e6 : (y.kind != 6) = false := by simp [k6]
        have F := Lib.hid (el_yes ET.out (by rw [← hq.2]; simp [k6]))
        have HQ := Lib.hid hq.1
        have hw2 : w.heap.size ≤ w1.heap.size := hw1
        clear hq k7 k6 hEq hg hy hd
        go_wp2
        go_ret2
        rw [F.out, ← HQ.out]
        exact ⟨.inr ⟨rfl, w1.heap.size, hw2, rfl, A', c', vs, hbx.out.cell, hrow.out, hE.out⟩, hB⟩
      · have e6 : (y.kind != 6) = true := by simp [k6]
        have F := Lib.hid (el_no ET.out (by rw [← hq.2]; simp [k6]))
        clear hq k7 k6 hEq hg hy hd
        go_wp2
        go_ret2
        rw [F.out]
        exact ⟨.inl ⟨by simp, rfl⟩, hB⟩
end Go.Proofs.YtfeaolnklooanaaDoor.Tm
