/- The law PatternCovers. -/
import Derived.Test.YtefpolgflimlgaaDoorPatK
import Derived.Test.YtefpolgflimlgaaDoorPatV
namespace Go.Proofs.YtefpolgflimlgaaDoor.Tm
open Go.RowKit
set_option linter.unusedVariables false
set_option linter.unusedSimpArgs false

set_option maxRecDepth 100000 in
set_option maxHeartbeats 8000000 in
theorem patternCovers_any (p q r t : List CellD) (x : List (List CellD)) (A B C D X : Option Addr) (ca cb cc cd cx : Nat) (w : World) (hp : Reads w A p) (hq : Reads w B q) (hr : Reads w C r) (ht : Reads w D t) (hx : Reads2 w X x) (fp : Fine p) (fq : Fine q) (fr : Fine r) (ft : Fine t) (fx : Fine2 x) (hcd : t.length ≤ cd) (hlx : x.length ≤ 1000000000000000) (hT : Tabs w) :
    Calls Tryd.prog 15 #[.slice A p.length ca, .slice B q.length cb, .slice C r.length cc, .slice D t.length cd, .slice X x.length cx] w fun e w' => e = .returned (.bool true) ∧ Below w.heap.size w w' := by
  have Hhp := Lib.hid hp
  have Hhq := Lib.hid hq
  have Hhr := Lib.hid hr
  have Hht := Lib.hid ht
  have Hhx := Lib.hid hx
  have Hfp := Lib.hid fp
  have Hfq := Lib.hid fq
  have Hfr := Lib.hid fr
  have Hft := Lib.hid ft
  have Hfx := Lib.hid fx
  have HhT := Lib.hid hT
  have L1 := Lib.hid (fun e => covers_self (p := p) e)
  have L2 := Lib.hid (fun e f => covers_on (p := p) (q := q) (r := r) e f)
  have L3 := Lib.hid (fun e a m => covers_law (p := p) (q := q) (t := t) (x := x) e a m)
  clear hp hq hr ht hx fp fq fr ft fx hT
  go_enter Tryd.func15, Tryd.ntmps15
  go_wp2_with fail
  refine (pcovers_any p q A B ca cb _ Hhp.out Hhq.out Hfp.out Hfq.out HhT.out).mono ?_
  rintro e w1 ⟨rfl, hB1⟩
  go_wp2_with fail
  refine (pcovers_any q r B C cb cc _ (Hhq.out.below hB1) (Hhr.out.below hB1) Hfq.out Hfr.out (Utf8Tabs_below HhT.out hB1)).mono ?_
  rintro e w2 ⟨rfl, hb⟩
  have hB2 := below_then hB1 hb
  clear hb hB1
  go_wp2_with fail
  refine (pcovers_any p r A C ca cc _ (Hhp.out.below hB2) (Hhr.out.below hB2) Hfp.out Hfr.out (Utf8Tabs_below HhT.out hB2)).mono ?_
  rintro e w3 ⟨rfl, hb⟩
  have hB3 := below_then hB2 hb
  clear hb hB2
  go_wp2_with fail
  refine (pcovers_any p p A A ca ca _ (Hhp.out.below hB3) (Hhp.out.below hB3) Hfp.out Hfp.out (Utf8Tabs_below HhT.out hB3)).mono ?_
  rintro e w4 ⟨rfl, hb⟩
  have hB4 := below_then hB3 hb
  clear hb hB3
  have HB4 := Lib.hid hB4
  have HT4 := Lib.hid (Utf8Tabs_below HhT.out hB4)
  clear hB4
  generalize (coversE p q).1 = a at *
  generalize (coversE p q).2 = e at *
  generalize (coversE q r).1 = b at *
  generalize (coversE q r).2 = f at *
  generalize (coversE p r).1 = c at *
  generalize (coversE p r).2 = g at *
  generalize (coversE p p).1 = s at *
  generalize (coversE p p).2 = h at *
  by_cases h0 : h = 0
  · have hs := L1.out h0
    have ht : (h == 0) = true := by simp [h0]
    subst hs
    clear h0
    by_cases e0 : e = 0
    · have et : (e == 0) = true := by simp [e0]
      have ef : (e != 0) = false := by simp [e0]
      by_cases f0 : f = 0
      · obtain ⟨g0, hl⟩ := L2.out e0 f0
        have ft : (f == 0) = true := by simp [f0]
        have gf : (g != 0) = false := by simp [g0]
        cases a
        · clear L1 L2 L3 e0 f0 g0 hl
          go_wp2_with fail
          refine (awake8_any _ HT4.out).mono ?_
          rintro e9 w9 ⟨rfl, hb9⟩
          go_wp2
          go_ret
          exact ⟨rfl, below_then HB4.out hb9⟩
        · replace L3 := Lib.hid (L3.out e0 rfl)
          cases b
          · clear e0 f0 g0 hl
            have M3 := Lib.hid (L3.out)
            clear L1 L2 L3
            go_wp2_with fail
            refine (pmatch_any q t x B D X cb cd cx _ (Hhq.out.below HB4.out) Hfq.out (Hht.out.below HB4.out) Hft.out (Hhx.out.below HB4.out) Hfx.out hcd hlx HT4.out).mono ?_
            rintro e5 w5 ⟨v5, rfl, _, hb5⟩
            have hB5 := below_then HB4.out hb5
            clear hb5
            go_wp2_with fail
            refine (pmatch_any p t x A D X ca cd cx _ (Hhp.out.below hB5) Hfp.out (Hht.out.below hB5) Hft.out (Hhx.out.below hB5) Hfx.out hcd hlx (Utf8Tabs_below HhT.out hB5)).mono ?_
            rintro e6 w6 ⟨v6, rfl, _, hb6⟩
            have HB6 := Lib.hid (below_then hB5 hb6)
            have HT6 := Lib.hid (Utf8Tabs_below HhT.out HB6.out)
            clear hb6 hB5
            generalize (matchE q t x).2.1 = mq at *
            generalize (matchE q t x).2.2 = iq at *
            generalize (matchE p t x).2.1 = mp at *
            generalize (matchE p t x).2.2 = ip at *
            by_cases iq0 : iq = 0
            · cases mq
              · have iqf : (iq != 0) = false := by simp [iq0]
                clear M3 iq0
                go_wp2_with fail
                refine (awake8_any _ HT6.out).mono ?_
                rintro e9 w9 ⟨rfl, hb9⟩
                go_wp2
                go_ret
                exact ⟨rfl, below_then HB6.out hb9⟩
              · obtain ⟨m1, m2⟩ := M3.out ⟨rfl, iq0⟩
                have iqf : (iq != 0) = false := by simp [iq0]
                subst m1 m2
                clear M3 iq0
                go_wp2_with fail
                refine (awake8_any _ HT6.out).mono ?_
                rintro e9 w9 ⟨rfl, hb9⟩
                go_wp2
                go_ret
                exact ⟨rfl, below_then HB6.out hb9⟩
            · have iqt : (iq != 0) = true := by rw [bne_iff_ne]; exact iq0
              clear M3 iq0
              go_wp2_with fail
              refine (awake8_any _ HT6.out).mono ?_
              rintro e9 w9 ⟨rfl, hb9⟩
              go_wp2
              go_ret
              exact ⟨rfl, below_then HB6.out hb9⟩
          · have hc := hl rfl rfl
            subst hc
            clear e0 f0 g0 hl
            have M3 := Lib.hid (L3.out)
            clear L1 L2 L3
            go_wp2_with fail
            refine (pmatch_any q t x B D X cb cd cx _ (Hhq.out.below HB4.out) Hfq.out (Hht.out.below HB4.out) Hft.out (Hhx.out.below HB4.out) Hfx.out hcd hlx HT4.out).mono ?_
            rintro e5 w5 ⟨v5, rfl, _, hb5⟩
            have hB5 := below_then HB4.out hb5
            clear hb5
            go_wp2_with fail
            refine (pmatch_any p t x A D X ca cd cx _ (Hhp.out.below hB5) Hfp.out (Hht.out.below hB5) Hft.out (Hhx.out.below hB5) Hfx.out hcd hlx (Utf8Tabs_below HhT.out hB5)).mono ?_
            rintro e6 w6 ⟨v6, rfl, _, hb6⟩
            have HB6 := Lib.hid (below_then hB5 hb6)
            have HT6 := Lib.hid (Utf8Tabs_below HhT.out HB6.out)
            clear hb6 hB5
            generalize (matchE q t x).2.1 = mq at *
            generalize (matchE q t x).2.2 = iq at *
            generalize (matchE p t x).2.1 = mp at *
            generalize (matchE p t x).2.2 = ip at *
            by_cases iq0 : iq = 0
            · cases mq
              · have iqf : (iq != 0) = false := by simp [iq0]
                clear M3 iq0
                go_wp2_with fail
                refine (awake8_any _ HT6.out).mono ?_
                rintro e9 w9 ⟨rfl, hb9⟩
                go_wp2
                go_ret
                exact ⟨rfl, below_then HB6.out hb9⟩
              · obtain ⟨m1, m2⟩ := M3.out ⟨rfl, iq0⟩
                have iqf : (iq != 0) = false := by simp [iq0]
                subst m1 m2
                clear M3 iq0
                go_wp2_with fail
                refine (awake8_any _ HT6.out).mono ?_
                rintro e9 w9 ⟨rfl, hb9⟩
                go_wp2
                go_ret
                exact ⟨rfl, below_then HB6.out hb9⟩
            · have iqt : (iq != 0) = true := by rw [bne_iff_ne]; exact iq0
              clear M3 iq0
              go_wp2_with fail
              refine (awake8_any _ HT6.out).mono ?_
              rintro e9 w9 ⟨rfl, hb9⟩
              go_wp2
              go_ret
              exact ⟨rfl, below_then HB6.out hb9⟩
      · have ff : (f == 0) = false := beq_eq_false_iff_ne.2 f0
        cases a
        · clear L1 L2 L3 e0 f0
          go_wp2_with fail
          refine (awake8_any _ HT4.out).mono ?_
          rintro e9 w9 ⟨rfl, hb9⟩
          go_wp2
          go_ret
          exact ⟨rfl, below_then HB4.out hb9⟩
        · replace L3 := Lib.hid (L3.out e0 rfl)
          clear e0 f0
          have M3 := Lib.hid (L3.out)
          clear L1 L2 L3
          go_wp2_with fail
          refine (pmatch_any q t x B D X cb cd cx _ (Hhq.out.below HB4.out) Hfq.out (Hht.out.below HB4.out) Hft.out (Hhx.out.below HB4.out) Hfx.out hcd hlx HT4.out).mono ?_
          rintro e5 w5 ⟨v5, rfl, _, hb5⟩
          have hB5 := below_then HB4.out hb5
          clear hb5
          go_wp2_with fail
          refine (pmatch_any p t x A D X ca cd cx _ (Hhp.out.below hB5) Hfp.out (Hht.out.below hB5) Hft.out (Hhx.out.below hB5) Hfx.out hcd hlx (Utf8Tabs_below HhT.out hB5)).mono ?_
          rintro e6 w6 ⟨v6, rfl, _, hb6⟩
          have HB6 := Lib.hid (below_then hB5 hb6)
          have HT6 := Lib.hid (Utf8Tabs_below HhT.out HB6.out)
          clear hb6 hB5
          generalize (matchE q t x).2.1 = mq at *
          generalize (matchE q t x).2.2 = iq at *
          generalize (matchE p t x).2.1 = mp at *
          generalize (matchE p t x).2.2 = ip at *
          by_cases iq0 : iq = 0
          · cases mq
            · have iqf : (iq != 0) = false := by simp [iq0]
              clear M3 iq0
              go_wp2_with fail
              refine (awake8_any _ HT6.out).mono ?_
              rintro e9 w9 ⟨rfl, hb9⟩
              go_wp2
              go_ret
              exact ⟨rfl, below_then HB6.out hb9⟩
            · obtain ⟨m1, m2⟩ := M3.out ⟨rfl, iq0⟩
              have iqf : (iq != 0) = false := by simp [iq0]
              subst m1 m2
              clear M3 iq0
              go_wp2_with fail
              refine (awake8_any _ HT6.out).mono ?_
              rintro e9 w9 ⟨rfl, hb9⟩
              go_wp2
              go_ret
              exact ⟨rfl, below_then HB6.out hb9⟩
          · have iqt : (iq != 0) = true := by rw [bne_iff_ne]; exact iq0
            clear M3 iq0
            go_wp2_with fail
            refine (awake8_any _ HT6.out).mono ?_
            rintro e9 w9 ⟨rfl, hb9⟩
            go_wp2
            go_ret
            exact ⟨rfl, below_then HB6.out hb9⟩
    · have et : (e == 0) = false := beq_eq_false_iff_ne.2 e0
      have ef : (e != 0) = true := by rw [bne_iff_ne]; exact e0
      clear L1 L2 L3 e0
      go_wp2_with fail
      refine (awake8_any _ HT4.out).mono ?_
      rintro e9 w9 ⟨rfl, hb9⟩
      go_wp2
      go_ret
      exact ⟨rfl, below_then HB4.out hb9⟩
  · have ht : (h == 0) = false := beq_eq_false_iff_ne.2 h0
    clear h0
    by_cases e0 : e = 0
    · have et : (e == 0) = true := by simp [e0]
      have ef : (e != 0) = false := by simp [e0]
      by_cases f0 : f = 0
      · obtain ⟨g0, hl⟩ := L2.out e0 f0
        have ft : (f == 0) = true := by simp [f0]
        have gf : (g != 0) = false := by simp [g0]
        cases a
        · clear L1 L2 L3 e0 f0 g0 hl
          go_wp2_with fail
          refine (awake8_any _ HT4.out).mono ?_
          rintro e9 w9 ⟨rfl, hb9⟩
          go_wp2
          go_ret
          exact ⟨rfl, below_then HB4.out hb9⟩
        · replace L3 := Lib.hid (L3.out e0 rfl)
          cases b
          · clear e0 f0 g0 hl
            have M3 := Lib.hid (L3.out)
            clear L1 L2 L3
            go_wp2_with fail
            refine (pmatch_any q t x B D X cb cd cx _ (Hhq.out.below HB4.out) Hfq.out (Hht.out.below HB4.out) Hft.out (Hhx.out.below HB4.out) Hfx.out hcd hlx HT4.out).mono ?_
            rintro e5 w5 ⟨v5, rfl, _, hb5⟩
            have hB5 := below_then HB4.out hb5
            clear hb5
            go_wp2_with fail
            refine (pmatch_any p t x A D X ca cd cx _ (Hhp.out.below hB5) Hfp.out (Hht.out.below hB5) Hft.out (Hhx.out.below hB5) Hfx.out hcd hlx (Utf8Tabs_below HhT.out hB5)).mono ?_
            rintro e6 w6 ⟨v6, rfl, _, hb6⟩
            have HB6 := Lib.hid (below_then hB5 hb6)
            have HT6 := Lib.hid (Utf8Tabs_below HhT.out HB6.out)
            clear hb6 hB5
            generalize (matchE q t x).2.1 = mq at *
            generalize (matchE q t x).2.2 = iq at *
            generalize (matchE p t x).2.1 = mp at *
            generalize (matchE p t x).2.2 = ip at *
            by_cases iq0 : iq = 0
            · cases mq
              · have iqf : (iq != 0) = false := by simp [iq0]
                clear M3 iq0
                go_wp2_with fail
                refine (awake8_any _ HT6.out).mono ?_
                rintro e9 w9 ⟨rfl, hb9⟩
                go_wp2
                go_ret
                exact ⟨rfl, below_then HB6.out hb9⟩
              · obtain ⟨m1, m2⟩ := M3.out ⟨rfl, iq0⟩
                have iqf : (iq != 0) = false := by simp [iq0]
                subst m1 m2
                clear M3 iq0
                go_wp2_with fail
                refine (awake8_any _ HT6.out).mono ?_
                rintro e9 w9 ⟨rfl, hb9⟩
                go_wp2
                go_ret
                exact ⟨rfl, below_then HB6.out hb9⟩
            · have iqt : (iq != 0) = true := by rw [bne_iff_ne]; exact iq0
              clear M3 iq0
              go_wp2_with fail
              refine (awake8_any _ HT6.out).mono ?_
              rintro e9 w9 ⟨rfl, hb9⟩
              go_wp2
              go_ret
              exact ⟨rfl, below_then HB6.out hb9⟩
          · have hc := hl rfl rfl
            subst hc
            clear e0 f0 g0 hl
            have M3 := Lib.hid (L3.out)
            clear L1 L2 L3
            go_wp2_with fail
            refine (pmatch_any q t x B D X cb cd cx _ (Hhq.out.below HB4.out) Hfq.out (Hht.out.below HB4.out) Hft.out (Hhx.out.below HB4.out) Hfx.out hcd hlx HT4.out).mono ?_
            rintro e5 w5 ⟨v5, rfl, _, hb5⟩
            have hB5 := below_then HB4.out hb5
            clear hb5
            go_wp2_with fail
            refine (pmatch_any p t x A D X ca cd cx _ (Hhp.out.below hB5) Hfp.out (Hht.out.below hB5) Hft.out (Hhx.out.below hB5) Hfx.out hcd hlx (Utf8Tabs_below HhT.out hB5)).mono ?_
            rintro e6 w6 ⟨v6, rfl, _, hb6⟩
            have HB6 := Lib.hid (below_then hB5 hb6)
            have HT6 := Lib.hid (Utf8Tabs_below HhT.out HB6.out)
            clear hb6 hB5
            generalize (matchE q t x).2.1 = mq at *
            generalize (matchE q t x).2.2 = iq at *
            generalize (matchE p t x).2.1 = mp at *
            generalize (matchE p t x).2.2 = ip at *
            by_cases iq0 : iq = 0
            · cases mq
              · have iqf : (iq != 0) = false := by simp [iq0]
                clear M3 iq0
                go_wp2_with fail
                refine (awake8_any _ HT6.out).mono ?_
                rintro e9 w9 ⟨rfl, hb9⟩
                go_wp2
                go_ret
                exact ⟨rfl, below_then HB6.out hb9⟩
              · obtain ⟨m1, m2⟩ := M3.out ⟨rfl, iq0⟩
                have iqf : (iq != 0) = false := by simp [iq0]
                subst m1 m2
                clear M3 iq0
                go_wp2_with fail
                refine (awake8_any _ HT6.out).mono ?_
                rintro e9 w9 ⟨rfl, hb9⟩
                go_wp2
                go_ret
                exact ⟨rfl, below_then HB6.out hb9⟩
            · have iqt : (iq != 0) = true := by rw [bne_iff_ne]; exact iq0
              clear M3 iq0
              go_wp2_with fail
              refine (awake8_any _ HT6.out).mono ?_
              rintro e9 w9 ⟨rfl, hb9⟩
              go_wp2
              go_ret
              exact ⟨rfl, below_then HB6.out hb9⟩
      · have ff : (f == 0) = false := beq_eq_false_iff_ne.2 f0
        cases a
        · clear L1 L2 L3 e0 f0
          go_wp2_with fail
          refine (awake8_any _ HT4.out).mono ?_
          rintro e9 w9 ⟨rfl, hb9⟩
          go_wp2
          go_ret
          exact ⟨rfl, below_then HB4.out hb9⟩
        · replace L3 := Lib.hid (L3.out e0 rfl)
          clear e0 f0
          have M3 := Lib.hid (L3.out)
          clear L1 L2 L3
          go_wp2_with fail
          refine (pmatch_any q t x B D X cb cd cx _ (Hhq.out.below HB4.out) Hfq.out (Hht.out.below HB4.out) Hft.out (Hhx.out.below HB4.out) Hfx.out hcd hlx HT4.out).mono ?_
          rintro e5 w5 ⟨v5, rfl, _, hb5⟩
          have hB5 := below_then HB4.out hb5
          clear hb5
          go_wp2_with fail
          refine (pmatch_any p t x A D X ca cd cx _ (Hhp.out.below hB5) Hfp.out (Hht.out.below hB5) Hft.out (Hhx.out.below hB5) Hfx.out hcd hlx (Utf8Tabs_below HhT.out hB5)).mono ?_
          rintro e6 w6 ⟨v6, rfl, _, hb6⟩
          have HB6 := Lib.hid (below_then hB5 hb6)
          have HT6 := Lib.hid (Utf8Tabs_below HhT.out HB6.out)
          clear hb6 hB5
          generalize (matchE q t x).2.1 = mq at *
          generalize (matchE q t x).2.2 = iq at *
          generalize (matchE p t x).2.1 = mp at *
          generalize (matchE p t x).2.2 = ip at *
          by_cases iq0 : iq = 0
          · cases mq
            · have iqf : (iq != 0) = false := by simp [iq0]
              clear M3 iq0
              go_wp2_with fail
              refine (awake8_any _ HT6.out).mono ?_
              rintro e9 w9 ⟨rfl, hb9⟩
              go_wp2
              go_ret
              exact ⟨rfl, below_then HB6.out hb9⟩
            · obtain ⟨m1, m2⟩ := M3.out ⟨rfl, iq0⟩
              have iqf : (iq != 0) = false := by simp [iq0]
              subst m1 m2
              clear M3 iq0
              go_wp2_with fail
              refine (awake8_any _ HT6.out).mono ?_
              rintro e9 w9 ⟨rfl, hb9⟩
              go_wp2
              go_ret
              exact ⟨rfl, below_then HB6.out hb9⟩
          · have iqt : (iq != 0) = true := by rw [bne_iff_ne]; exact iq0
            clear M3 iq0
            go_wp2_with fail
            refine (awake8_any _ HT6.out).mono ?_
            rintro e9 w9 ⟨rfl, hb9⟩
            go_wp2
            go_ret
            exact ⟨rfl, below_then HB6.out hb9⟩
    · have et : (e == 0) = false := beq_eq_false_iff_ne.2 e0
      have ef : (e != 0) = true := by rw [bne_iff_ne]; exact e0
      clear L1 L2 L3 e0
      go_wp2_with fail
      refine (awake8_any _ HT4.out).mono ?_
      rintro e9 w9 ⟨rfl, hb9⟩
      go_wp2
      go_ret
      exact ⟨rfl, below_then HB4.out hb9⟩
theorem patternCovers_row (A : Option Addr) (ca : Nat) (p : List CellD) (B : Option Addr) (cb : Nat) (q : List CellD) (C : Option Addr) (cc : Nat) (r : List CellD) (D : Option Addr) (cd : Nat) (t : List CellD) (X : Option Addr) (cx : Nat) (x : List (List CellD)) (w : World) (hT : Tabs w)
    (h1 : p.length ≤ ca) (hp : Reads w A p) (s1 : ∀ j (h : j < p.length), (p[j]).text.size ≤ 9223372036854775807) (y1 : p.length * 32 ≤ 140737488351232) (h2 : q.length ≤ cb) (hq : Reads w B q) (s2 : ∀ j (h : j < q.length), (q[j]).text.size ≤ 9223372036854775807) (y2 : q.length * 32 ≤ 140737488351232)
    (h3 : r.length ≤ cc) (hr : Reads w C r) (s3 : ∀ j (h : j < r.length), (r[j]).text.size ≤ 9223372036854775807) (y3 : r.length * 32 ≤ 140737488351232) (h4 : t.length ≤ cd) (ht : Reads w D t) (s4 : ∀ j (h : j < t.length), (t[j]).text.size ≤ 9223372036854775807) (y4 : t.length * 32 ≤ 140737488351232)
    (h5 : x.length ≤ cx) (hx : Reads2 w X x) (fx : Fine2 x) (y5 : x.length * 24 ≤ 140737488351232) :
    Calls Tryd.prog 15 #[.slice A p.length ca, .slice B q.length cb, .slice C r.length cc, .slice D t.length cd, .slice X x.length cx] w fun e w' => e = .returned (.bool true) ∧ Below w.heap.size w w' :=
  patternCovers_any p q r t x A B C D X ca cb cc cd cx w hp hq hr ht hx ⟨y1, s1⟩ ⟨y2, s2⟩ ⟨y3, s3⟩ ⟨y4, s4⟩ fx h4 (by omega) hT
end Go.Proofs.YtefpolgflimlgaaDoor.Tm
