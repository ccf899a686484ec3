/- Not, of both texts: notE. -/
import Derived.Test.YtefpolgflimlgaaDoorNotP
import Derived.Deep.DeepCutAuto
import Derived.Laws.Rows
namespace Go.Proofs.YtefpolgflimlgaaDoor.Tm
open Go.RowKit
set_option linter.unusedVariables false
set_option linter.unusedSimpArgs false

abbrev valsA (t : TestD) : Array Value := #[.int .i64 t.op, .int .i64 t.a.kind, .int .i64 t.a.n, .string t.a.text, .int .i64 t.b.kind, .int .i64 t.b.n, .string t.b.text]
/-- A test in a block of its own. -/
structure TBlk (w : World) (q : Nat) (t : TestD) : Prop where
  at_ : TestAt w q 0 t
  free : ∀ i, w.frozen? ⟨q, i, none⟩ = false
theorem TBlk.new (w : World) (t : TestD) (T : TypeId) : TBlk (w.alloc (.cells (valsA t) T)) w.heap.size t :=
  ⟨test_new w t T, fun i => by unfold World.frozen?; rw [heap_new]; simp⟩
theorem TBlk.below {w W : World} {q : Nat} {t : TestD} (h : TBlk w q t) (hB : Below w.heap.size w W) : TBlk W q t :=
  ⟨h.at_.below hB, fun i => by rw [hB.frozen (p := ⟨q, i, none⟩) (show q < w.heap.size from cell_lt h.at_.op)]; exact h.free i⟩
/-- A test stored into a block of its own. -/
abbrev set7 (w : World) (q : Nat) (t : TestD) : World :=
  (((((((w.setCell ⟨q, 0, none⟩ (.int .i64 t.op)).setCell ⟨q, 1, none⟩ (.int .i64 t.a.kind)).setCell ⟨q, 2, none⟩ (.int .i64 t.a.n)).setCell ⟨q, 3, none⟩ (.string t.a.text)).setCell ⟨q, 4, none⟩ (.int .i64 t.b.kind)).setCell ⟨q, 5, none⟩ (.int .i64 t.b.n)).setCell ⟨q, 6, none⟩ (.string t.b.text))
theorem cell_set {w : World} {q i j : Nat} {v u : Value} (h : w.cell? ⟨q, j, none⟩ = some u) : (w.setCell ⟨q, i, none⟩ v).cell? ⟨q, j, none⟩ = some (if j = i then v else u) := by
  by_cases e : j = i
  · subst e
    rw [if_pos rfl]
    exact World.cell?_setCell_same _ _ _ h
  · rw [if_neg e, World.cell?_setCell_other _ _ _ _ (fun e2 => e (by first | (injection e2; assumption) | (injection e2 with _ e3 _; exact e3.symm) | (injection e2 with _ e3 _; exact e3)))]
    exact h
theorem cs_same {w : World} {a : Addr} {v : Value} (h : (w.cell? a).isSome = true) : (w.setCell a v).cell? a = some v := by
  obtain ⟨u, hu⟩ := Option.isSome_iff_exists.1 h
  exact World.cell?_setCell_same _ _ _ hu
theorem cs_some {w : World} {a b : Addr} {v : Value} (h : (w.cell? a).isSome = true) : ((w.setCell b v).cell? a).isSome = true := by
  obtain ⟨u, hu⟩ := Option.isSome_iff_exists.1 h
  obtain ⟨u', hu'⟩ := cell?_setCell_some (p := b) (x := v) hu
  rw [hu']; rfl
theorem set7_cells {w : World} {q : Nat} {t0 t : TestD} (h : TBlk w q t0) : TestAt (set7 w q t) q 0 t := by
  obtain ⟨⟨c0, c1, c2, c3, c4, c5, c6⟩, _⟩ := h
  simp only [Nat.zero_add] at c1 c2 c3 c4 c5 c6
  refine ⟨?_, ?_, ?_, ?_, ?_, ?_, ?_⟩
  · exact cell_set (cell_set (cell_set (cell_set (cell_set (cell_set (cell_set c0))))))
  · exact cell_set (cell_set (cell_set (cell_set (cell_set (cell_set (cell_set c1))))))
  · exact cell_set (cell_set (cell_set (cell_set (cell_set (cell_set (cell_set c2))))))
  · exact cell_set (cell_set (cell_set (cell_set (cell_set (cell_set (cell_set c3))))))
  · exact cell_set (cell_set (cell_set (cell_set (cell_set (cell_set (cell_set c4))))))
  · exact cell_set (cell_set (cell_set (cell_set (cell_set (cell_set (cell_set c5))))))
  · exact cell_set (cell_set (cell_set (cell_set (cell_set (cell_set (cell_set c6))))))
theorem set7_below {w0 w : World} {B q : Nat} {t : TestD} (h : Below B w0 w) (hq : B ≤ q) : Below B w0 (set7 w q t) :=
  ((((((h.setCell (p := ⟨q, 0, none⟩) hq _).setCell (p := ⟨q, 1, none⟩) hq _).setCell (p := ⟨q, 2, none⟩) hq _).setCell (p := ⟨q, 3, none⟩) hq _).setCell (p := ⟨q, 4, none⟩) hq _).setCell (p := ⟨q, 5, none⟩) hq _).setCell (p := ⟨q, 6, none⟩) hq _
set_option maxRecDepth 100000 in
set_option maxHeartbeats 4000000 in
theorem gnot_any (t : TestD) (w : World) (hs : t.a.text.size ≤ 9223372036854775807) (hs2 : t.b.text.size ≤ 9223372036854775807) (hT : Tabs w) :
    Calls Tryd.prog 67 #[aggT t] w fun e w' => e = .returned (.tuple #[aggT (notE t).1, .bool (notE t).2]) ∧ Below w.heap.size w w' := by
  have hB := below_then (below_one w (.cells (valsA t) 51)) (below_one _ (.cells (valsA zeroT) 51))
  have T1 := (TBlk.new w t 51).below (below_one _ (.cells (valsA zeroT) 51))
  have T2 := TBlk.new (w.alloc (.cells (valsA t) 51)) zeroT 51
  rw [World.size_alloc] at T2
  have HB := Lib.hid hB
  have H1 := Lib.hid T1
  have H2 := Lib.hid T2
  have HT := Lib.hid (Utf8Tabs_below hT hB)
  clear hB T1 T2 hT
  cases ht : testB t
  · have F := Lib.hid (notE_no ht)
    have HH := Lib.hid ht
    clear ht
    go_enter Tryd.func67, Tryd.ntmps67
    go_wp2_with fail
    refine (gright_any t _ hs hs2 HT.out).mono ?_
    rintro e w1 ⟨rfl, hb⟩
    rw [HH.out]
    have hB1 := below_then HB.out hb
    have K := H2.out.below hb
    have C7 := set7_cells (t := zeroT) K
    have B7 := set7_below (q := w.heap.size + 1) (t := zeroT) hB1 (by omega)
    obtain ⟨⟨c0, c1, c2, c3, c4, c5, c6⟩, fr⟩ := K
    simp only [Nat.zero_add] at c1 c2 c3 c4 c5 c6
    have f0 := fr 0
    have f1 := fr 1
    have f2 := fr 2
    have f3 := fr 3
    have f4 := fr 4
    have f5 := fr 5
    have f6 := fr 6
    go_wp2
    exact bodyPost_ret (v := .tuple #[aggT zeroT, .bool false]) (by simp [results, Tryd.results67, go_sem, cs_same, cs_some, c0, c1, c2, c3, c4, c5, c6]; exact ⟨rfl, rfl, rfl, rfl, rfl, rfl, rfl⟩) rfl ⟨by rw [F.out], B7⟩
  · by_cases ho : 6 < t.op
    · have F := Lib.hid (notE_one ho)
      have HH := Lib.hid ht
      clear ht
      go_enter Tryd.func67, Tryd.ntmps67
      go_wp2_with fail
      refine (gright_any t _ hs hs2 HT.out).mono ?_
      rintro e w1 ⟨rfl, hb⟩
      rw [HH.out]
      have hB1 := below_then HB.out hb
      have K := H2.out.below hb
      have K1 := (H1.out.below hb).at_.op
      have B7 := set7_below (q := w.heap.size + 1) (t := zeroT) hB1 (by omega)
      obtain ⟨⟨c0, c1, c2, c3, c4, c5, c6⟩, fr⟩ := K
      simp only [Nat.zero_add] at c1 c2 c3 c4 c5 c6
      have f0 := fr 0
      have f1 := fr 1
      have f2 := fr 2
      have f3 := fr 3
      have f4 := fr 4
      have f5 := fr 5
      have f6 := fr 6
      go_wp2
      exact bodyPost_ret (v := .tuple #[aggT zeroT, .bool false]) (by simp [results, Tryd.results67, go_sem, cs_same, cs_some, c0, c1, c2, c3, c4, c5, c6]; exact ⟨rfl, rfl, rfl, rfl, rfl, rfl, rfl⟩) rfl ⟨by rw [F.out], B7⟩
    · have ho' : t.op ≤ 6 := by omega
      have F := Lib.hid (notE_yes ht ho')
      have HH := Lib.hid ht
      have h1 := test_op ht
      clear ht ho
      obtain ⟨op, a, b⟩ := t
      simp only at h1 ho' hs hs2
      rcases op_six h1 ho' with rfl | rfl | rfl | rfl | rfl | rfl
      · clear h1 ho'
        go_enter Tryd.func67, Tryd.ntmps67
        go_wp2_with fail
        refine (gright_any ⟨1, a, b⟩ _ hs hs2 HT.out).mono ?_
        rintro e w1 ⟨rfl, hb⟩
        rw [HH.out]
        have hB1 := below_then HB.out hb
        have K := H2.out.below hb
        have K1 := H1.out.below hb
        obtain ⟨⟨c0, c1, c2, c3, c4, c5, c6⟩, fr⟩ := K
        obtain ⟨⟨a0, a1, a2, a3, a4, a5, a6⟩, gr⟩ := K1
        simp only [Nat.zero_add] at c1 c2 c3 c4 c5 c6 a0 a1 a2 a3 a4 a5 a6
        have f0 := fr 0
        have f1 := fr 1
        have f2 := fr 2
        have f3 := fr 3
        have f4 := fr 4
        have f5 := fr 5
        have f6 := fr 6
        have g0 := gr 0
        have s0 : ∀ v, (w1.setCell ⟨w.heap.size, 0, none⟩ v).cell? ⟨w.heap.size, 0, none⟩ = some v := fun v => World.cell?_setCell_same _ _ _ a0
        have B7 := fun v => set7_below (q := w.heap.size + 1) (t := notT ⟨1, a, b⟩) (hB1.setCell (p := ⟨w.heap.size, 0, none⟩) (Nat.le_refl _) v) (by omega)
        have HB7 := Lib.hid B7
        clear B7 hB1 hb fr gr
        go_wp2
        refine bodyPost_ret (v := .tuple #[aggT (notT ⟨1, a, b⟩), .bool true]) (by simp [results, Tryd.results67, go_sem, cs_same, cs_some, c0, c1, c2, c3, c4, c5, c6, notT, flipOp]) rfl ⟨by rw [F.out], ?_⟩
        exact HB7.out (.int .i64 2)
      · clear h1 ho'
        go_enter Tryd.func67, Tryd.ntmps67
        go_wp2_with fail
        refine (gright_any ⟨2, a, b⟩ _ hs hs2 HT.out).mono ?_
        rintro e w1 ⟨rfl, hb⟩
        rw [HH.out]
        have hB1 := below_then HB.out hb
        have K := H2.out.below hb
        have K1 := H1.out.below hb
        obtain ⟨⟨c0, c1, c2, c3, c4, c5, c6⟩, fr⟩ := K
        obtain ⟨⟨a0, a1, a2, a3, a4, a5, a6⟩, gr⟩ := K1
        simp only [Nat.zero_add] at c1 c2 c3 c4 c5 c6 a0 a1 a2 a3 a4 a5 a6
        have f0 := fr 0
        have f1 := fr 1
        have f2 := fr 2
        have f3 := fr 3
        have f4 := fr 4
        have f5 := fr 5
        have f6 := fr 6
        have g0 := gr 0
        have s0 : ∀ v, (w1.setCell ⟨w.heap.size, 0, none⟩ v).cell? ⟨w.heap.size, 0, none⟩ = some v := fun v => World.cell?_setCell_same _ _ _ a0
        have B7 := fun v => set7_below (q := w.heap.size + 1) (t := notT ⟨2, a, b⟩) (hB1.setCell (p := ⟨w.heap.size, 0, none⟩) (Nat.le_refl _) v) (by omega)
        have HB7 := Lib.hid B7
        clear B7 hB1 hb fr gr
        go_wp2
        refine bodyPost_ret (v := .tuple #[aggT (notT ⟨2, a, b⟩), .bool true]) (by simp [results, Tryd.results67, go_sem, cs_same, cs_some, c0, c1, c2, c3, c4, c5, c6, notT, flipOp]) rfl ⟨by rw [F.out], ?_⟩
        exact HB7.out (.int .i64 1)
      · clear h1 ho'
        go_enter Tryd.func67, Tryd.ntmps67
        go_wp2_with fail
        refine (gright_any ⟨3, a, b⟩ _ hs hs2 HT.out).mono ?_
        rintro e w1 ⟨rfl, hb⟩
        rw [HH.out]
        have hB1 := below_then HB.out hb
        have K := H2.out.below hb
        have K1 := H1.out.below hb
        obtain ⟨⟨c0, c1, c2, c3, c4, c5, c6⟩, fr⟩ := K
        obtain ⟨⟨a0, a1, a2, a3, a4, a5, a6⟩, gr⟩ := K1
        simp only [Nat.zero_add] at c1 c2 c3 c4 c5 c6 a0 a1 a2 a3 a4 a5 a6
        have f0 := fr 0
        have f1 := fr 1
        have f2 := fr 2
        have f3 := fr 3
        have f4 := fr 4
        have f5 := fr 5
        have f6 := fr 6
        have g0 := gr 0
        have s0 : ∀ v, (w1.setCell ⟨w.heap.size, 0, none⟩ v).cell? ⟨w.heap.size, 0, none⟩ = some v := fun v => World.cell?_setCell_same _ _ _ a0
        have B7 := fun v => set7_below (q := w.heap.size + 1) (t := notT ⟨3, a, b⟩) (hB1.setCell (p := ⟨w.heap.size, 0, none⟩) (Nat.le_refl _) v) (by omega)
        have HB7 := Lib.hid B7
        clear B7 hB1 hb fr gr
        go_wp2
        refine bodyPost_ret (v := .tuple #[aggT (notT ⟨3, a, b⟩), .bool true]) (by simp [results, Tryd.results67, go_sem, cs_same, cs_some, c0, c1, c2, c3, c4, c5, c6, notT, flipOp]) rfl ⟨by rw [F.out], ?_⟩
        exact HB7.out (.int .i64 6)
      · clear h1 ho'
        go_enter Tryd.func67, Tryd.ntmps67
        go_wp2_with fail
        refine (gright_any ⟨4, a, b⟩ _ hs hs2 HT.out).mono ?_
        rintro e w1 ⟨rfl, hb⟩
        rw [HH.out]
        have hB1 := below_then HB.out hb
        have K := H2.out.below hb
        have K1 := H1.out.below hb
        obtain ⟨⟨c0, c1, c2, c3, c4, c5, c6⟩, fr⟩ := K
        obtain ⟨⟨a0, a1, a2, a3, a4, a5, a6⟩, gr⟩ := K1
        simp only [Nat.zero_add] at c1 c2 c3 c4 c5 c6 a0 a1 a2 a3 a4 a5 a6
        have f0 := fr 0
        have f1 := fr 1
        have f2 := fr 2
        have f3 := fr 3
        have f4 := fr 4
        have f5 := fr 5
        have f6 := fr 6
        have g0 := gr 0
        have s0 : ∀ v, (w1.setCell ⟨w.heap.size, 0, none⟩ v).cell? ⟨w.heap.size, 0, none⟩ = some v := fun v => World.cell?_setCell_same _ _ _ a0
        have B7 := fun v => set7_below (q := w.heap.size + 1) (t := notT ⟨4, a, b⟩) (hB1.setCell (p := ⟨w.heap.size, 0, none⟩) (Nat.le_refl _) v) (by omega)
        have HB7 := Lib.hid B7
        clear B7 hB1 hb fr gr
        go_wp2
        refine bodyPost_ret (v := .tuple #[aggT (notT ⟨4, a, b⟩), .bool true]) (by simp [results, Tryd.results67, go_sem, cs_same, cs_some, c0, c1, c2, c3, c4, c5, c6, notT, flipOp]) rfl ⟨by rw [F.out], ?_⟩
        exact HB7.out (.int .i64 5)
      · clear h1 ho'
        go_enter Tryd.func67, Tryd.ntmps67
        go_wp2_with fail
        refine (gright_any ⟨5, a, b⟩ _ hs hs2 HT.out).mono ?_
        rintro e w1 ⟨rfl, hb⟩
        rw [HH.out]
        have hB1 := below_then HB.out hb
        have K := H2.out.below hb
        have K1 := H1.out.below hb
        obtain ⟨⟨c0, c1, c2, c3, c4, c5, c6⟩, fr⟩ := K
        obtain ⟨⟨a0, a1, a2, a3, a4, a5, a6⟩, gr⟩ := K1
        simp only [Nat.zero_add] at c1 c2 c3 c4 c5 c6 a0 a1 a2 a3 a4 a5 a6
        have f0 := fr 0
        have f1 := fr 1
        have f2 := fr 2
        have f3 := fr 3
        have f4 := fr 4
        have f5 := fr 5
        have f6 := fr 6
        have g0 := gr 0
        have s0 : ∀ v, (w1.setCell ⟨w.heap.size, 0, none⟩ v).cell? ⟨w.heap.size, 0, none⟩ = some v := fun v => World.cell?_setCell_same _ _ _ a0
        have B7 := fun v => set7_below (q := w.heap.size + 1) (t := notT ⟨5, a, b⟩) (hB1.setCell (p := ⟨w.heap.size, 0, none⟩) (Nat.le_refl _) v) (by omega)
        have HB7 := Lib.hid B7
        clear B7 hB1 hb fr gr
        go_wp2
        refine bodyPost_ret (v := .tuple #[aggT (notT ⟨5, a, b⟩), .bool true]) (by simp [results, Tryd.results67, go_sem, cs_same, cs_some, c0, c1, c2, c3, c4, c5, c6, notT, flipOp]) rfl ⟨by rw [F.out], ?_⟩
        exact HB7.out (.int .i64 4)
      · clear h1 ho'
        go_enter Tryd.func67, Tryd.ntmps67
        go_wp2_with fail
        refine (gright_any ⟨6, a, b⟩ _ hs hs2 HT.out).mono ?_
        rintro e w1 ⟨rfl, hb⟩
        rw [HH.out]
        have hB1 := below_then HB.out hb
        have K := H2.out.below hb
        have K1 := H1.out.below hb
        obtain ⟨⟨c0, c1, c2, c3, c4, c5, c6⟩, fr⟩ := K
        obtain ⟨⟨a0, a1, a2, a3, a4, a5, a6⟩, gr⟩ := K1
        simp only [Nat.zero_add] at c1 c2 c3 c4 c5 c6 a0 a1 a2 a3 a4 a5 a6
        have f0 := fr 0
        have f1 := fr 1
        have f2 := fr 2
        have f3 := fr 3
        have f4 := fr 4
        have f5 := fr 5
        have f6 := fr 6
        have g0 := gr 0
        have s0 : ∀ v, (w1.setCell ⟨w.heap.size, 0, none⟩ v).cell? ⟨w.heap.size, 0, none⟩ = some v := fun v => World.cell?_setCell_same _ _ _ a0
        have B7 := fun v => set7_below (q := w.heap.size + 1) (t := notT ⟨6, a, b⟩) (hB1.setCell (p := ⟨w.heap.size, 0, none⟩) (Nat.le_refl _) v) (by omega)
        have HB7 := Lib.hid B7
        clear B7 hB1 hb fr gr
        go_wp2
        refine bodyPost_ret (v := .tuple #[aggT (notT ⟨6, a, b⟩), .bool true]) (by simp [results, Tryd.results67, go_sem, cs_same, cs_some, c0, c1, c2, c3, c4, c5, c6, notT, flipOp]) rfl ⟨by rw [F.out], ?_⟩
        exact HB7.out (.int .i64 3)
end Go.Proofs.YtefpolgflimlgaaDoor.Tm
