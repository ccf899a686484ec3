/- One, Not of the document, the law GuardTests. -/
import Derived.Test.YtefpolgflimlgaaDoorNot
import Derived.Test.YtefpolgflimlgaaDoorAsksI
import Derived.Handy
import Derived.BigQuiet
import Derived.WalkSmall
import Derived.RegionTactic
import Derived.Deep.QuietTactic
import Derived.KernelRfl
namespace Go.Proofs.YtefpolgflimlgaaDoor.Tm
open Go.RowKit
set_option linter.unusedVariables false
set_option linter.unusedSimpArgs false

def oneE (op : Int) (a b : List CellD) : Bool × Int :=
  if opB op = false then (false, 90) else if (rightE a).1 ≠ 0 then (false, (rightE a).1) else if op ≤ 6 ∧ (rightE b).1 ≠ 0 then (false, (rightE b).1) else (saysB op a b, 0)
theorem one_op {op : Int} {a b : List CellD} (h : opB op = false) : oneE op a b = (false, 90) := by rw [oneE, if_pos h]
theorem one_a {op : Int} {a b : List CellD} (h : opB op = true) (e : (rightE a).1 ≠ 0) : oneE op a b = (false, (rightE a).1) := by rw [oneE, if_neg (by simp [h]), if_pos e]
theorem one_b {op : Int} {a b : List CellD} (h : opB op = true) (e : (rightE a).1 = 0) (o : op ≤ 6) (f : (rightE b).1 ≠ 0) : oneE op a b = (false, (rightE b).1) := by rw [oneE, if_neg (by simp [h]), if_neg (by simp [e]), if_pos ⟨o, f⟩]
theorem one_s {op : Int} {a b : List CellD} (h : opB op = true) (e : (rightE a).1 = 0) (f : ¬ (op ≤ 6 ∧ (rightE b).1 ≠ 0)) : oneE op a b = (saysB op a b, 0) := by rw [oneE, if_neg (by simp [h]), if_neg (by simp [e]), if_neg f]
theorem right_ne {a : List CellD} (e : (rightE a).1 = 0) : a ≠ [] := by
  rintro rfl
  simp [rightE] at e
set_option maxRecDepth 100000 in
set_option maxHeartbeats 4000000 in
theorem gone_any (op : Int) (a b : List CellD) (A B : Option Addr) (c d : Nat) (w : World) (hr : Reads w A a) (hr2 : Reads w B b) (hf : Fine a) (hf2 : Fine b) (hc : a.length ≤ c) (hd : b.length ≤ d) (hT : Tabs w) :
    Calls Tryd.prog 80 #[.int .i64 op, .slice A a.length c, .slice B b.length d] w fun e w' => e = .returned (.tuple #[.bool (oneE op a b).1, .int .i64 (oneE op a b).2]) ∧ Below w.heap.size w w' := by
  have HR := Lib.hid hr
  have HR2 := Lib.hid hr2
  have HF := Lib.hid hf
  have HF2 := Lib.hid hf2
  have HT := Lib.hid hT
  clear hr hr2 hf hf2 hT
  cases ho : opB op
  · have F := Lib.hid (one_op (a := a) (b := b) ho)
    go_enter Tryd.func80, Tryd.ntmps80
    go_wp2_with fail
    refine (is_any op _).mono ?_
    rintro e w1 ⟨rfl, rfl⟩
    rw [ho]
    clear ho
    go_wp2
    go_ret2
    exact ⟨by rw [F.out]; rfl, Below.refl _ _⟩
  · have HO := Lib.hid ho
    have FA := Lib.hid (one_a (a := a) (b := b) ho)
    have FB := Lib.hid (one_b (a := a) (b := b) ho)
    have FS := Lib.hid (one_s (a := a) (b := b) ho)
    go_enter Tryd.func80, Tryd.ntmps80
    go_wp2_with fail
    refine (is_any op _).mono ?_
    rintro e w1 ⟨rfl, rfl⟩
    rw [ho]
    clear ho
    go_wp2_with fail
    refine (wright_any a A c _ HR.out HF.out.text HF.out.lim HT.out).mono ?_
    rintro e w1 ⟨rfl, hb1⟩
    by_cases ea : (rightE a).1 = 0
    · have ta : ((rightE a).1 != 0) = false := by rw [bne_eq_false_iff_eq]; exact ea
      have EA := Lib.hid ea
      clear ea FA
      have HT1 := Lib.hid (Utf8Tabs_below HT.out hb1)
      have HRb := Lib.hid (HR2.out.below hb1)
      go_wp2_with fail
      refine (wright_any b B d _ HRb.out HF2.out.text HF2.out.lim HT1.out).mono ?_
      rintro e w2 ⟨rfl, hb2⟩
      have hB2 := below_then hb1 hb2
      by_cases o6 : op ≤ 6
      · by_cases eb : (rightE b).1 = 0
        · have tb : ((rightE b).1 != 0) = false := by rw [bne_eq_false_iff_eq]; exact eb
          have F := Lib.hid (FS.out EA.out (fun h => h.2 eb))
          have EB := Lib.hid eb
          clear eb FB FS hb1 hb2
          go_wp2_with fail
          refine (says_any op a b A B c d _ (HR.out.below hB2) (HR2.out.below hB2) HF.out HF2.out hc hd (Utf8Tabs_below HT.out hB2) HO.out (right_ne EA.out) (fun _ => ⟨EA.out, EB.out⟩)).mono ?_
          rintro e w3 ⟨rfl, hb3⟩
          go_wp2
          go_ret2
          exact ⟨by rw [F.out]; rfl, below_then hB2 hb3⟩
        · have tb : ((rightE b).1 != 0) = true := by rw [bne_iff_ne]; exact eb
          have F := Lib.hid (FB.out EA.out o6 eb)
          clear eb FB FS hb1 hb2
          go_wp2
          go_ret2
          exact ⟨by rw [F.out]; rfl, hB2⟩
      · have F := Lib.hid (FS.out EA.out (fun h => o6 h.1))
        clear FB FS hb1 hb2
        go_wp2_with fail
        refine (says_any op a b A B c d _ (HR.out.below hB2) (HR2.out.below hB2) HF.out HF2.out hc hd (Utf8Tabs_below HT.out hB2) HO.out (right_ne EA.out) (fun h => absurd h (by omega))).mono ?_
        rintro e w3 ⟨rfl, hb3⟩
        go_wp2
        go_ret2
        exact ⟨by rw [F.out]; rfl, below_then hB2 hb3⟩
    · have ta : ((rightE a).1 != 0) = true := by rw [bne_iff_ne]; exact ea
      have F := Lib.hid (FA.out ea)
      clear ea FA FB FS
      go_wp2
      go_ret2
      exact ⟨by rw [F.out]; rfl, hb1⟩
set_option maxRecDepth 100000 in
set_option maxHeartbeats 4000000 in
theorem rone_any (op : Int) (a b : List CellD) (A B : Option Addr) (c d : Nat) (w : World) (hr : Reads w A a) (hr2 : Reads w B b) (hf : Fine a) (hf2 : Fine b) :
    Calls Tryd.prog 81 #[.int .i64 op, .slice A a.length c, .slice B b.length d] w fun e w' => e = .returned (.tuple #[.bool (oneE op a b).1, .int .i64 (oneE op a b).2]) ∧ Below w.heap.size w w' := by
  have HR := Lib.hid hr
  have HR2 := Lib.hid hr2
  have HF := Lib.hid hf
  have HF2 := Lib.hid hf2
  clear hr hr2 hf hf2
  by_cases h1 : op < 1
  · have F := Lib.hid (one_op (a := a) (b := b) (show opB op = false by simp [opB]; omega))
    go_enter Tryd.func81, Tryd.ntmps81
    go_wp2
    go_ret2
    exact ⟨by rw [F.out]; rfl, Below.refl _ _⟩
  by_cases h13 : 13 < op
  · have F := Lib.hid (one_op (a := a) (b := b) (show opB op = false by simp [opB]; omega))
    go_enter Tryd.func81, Tryd.ntmps81
    go_wp2
    go_ret2
    exact ⟨by rw [F.out]; rfl, Below.refl _ _⟩
  have ho : opB op = true := by simp [opB]; omega
  have HO := Lib.hid ho
  have FA := Lib.hid (one_a (a := a) (b := b) ho)
  have FB := Lib.hid (one_b (a := a) (b := b) ho)
  have FS := Lib.hid (one_s (a := a) (b := b) ho)
  clear ho
  have hrs := fun (e : (rightE a).1 = 0) (W : World) (hB : Below w.heap.size w W) => (show Calls Tryd.prog 138 #[.int .i64 op, .slice A a.length c, .slice B b.length d] W fun e w' => e = .returned (.bool (saysB op a b)) ∧ Below W.heap.size W w' by
    have hne := right_ne e
    cases a with
    | nil => exact absurd rfl hne
    | cons x a' => exact rsays9_any op x a' b A B c d W (HR.out.below hB) (HR2.out.below hB) HF.out.lim HF2.out.lim HO.out)
  have HS := Lib.hid hrs
  clear hrs
  go_enter Tryd.func81, Tryd.ntmps81
  go_wp2_with fail
  refine (rright_any a A c _ HR.out HF.out.text HF.out.lim).mono ?_
  rintro e w1 ⟨rfl, hb1⟩
  by_cases ea : (rightE a).1 = 0
  · have ta : ((rightE a).1 != 0) = false := by rw [bne_eq_false_iff_eq]; exact ea
    have EA := Lib.hid ea
    clear ea FA
    by_cases o6 : op ≤ 6
    · have HRb := Lib.hid (HR2.out.below hb1)
      go_wp2_with fail
      refine (rright_any b B d _ HRb.out HF2.out.text HF2.out.lim).mono ?_
      rintro e w2 ⟨rfl, hb2⟩
      have hB2 := below_then hb1 hb2
      by_cases eb : (rightE b).1 = 0
      · have tb : ((rightE b).1 != 0) = false := by rw [bne_eq_false_iff_eq]; exact eb
        have F := Lib.hid (FS.out EA.out (fun h => h.2 eb))
        clear eb FB FS hb1 hb2
        go_wp2_with fail
        refine (HS.out EA.out _ hB2).mono ?_
        rintro e w3 ⟨rfl, hb3⟩
        go_wp2
        go_ret2
        exact ⟨by rw [F.out]; rfl, below_then hB2 hb3⟩
      · have tb : ((rightE b).1 != 0) = true := by rw [bne_iff_ne]; exact eb
        have F := Lib.hid (FB.out EA.out o6 eb)
        clear eb FB FS hb1 hb2
        go_wp2
        go_ret2
        exact ⟨by rw [F.out]; rfl, hB2⟩
    · have F := Lib.hid (FS.out EA.out (fun h => o6 h.1))
      clear FB FS
      go_wp2_with fail
      refine (HS.out EA.out _ hb1).mono ?_
      rintro e w3 ⟨rfl, hb3⟩
      go_wp2
      go_ret2
      exact ⟨by rw [F.out]; rfl, below_then hb1 hb3⟩
  · have ta : ((rightE a).1 != 0) = true := by rw [bne_iff_ne]; exact ea
    have F := Lib.hid (FA.out ea)
    clear ea FA FB FS
    go_wp2
    go_ret2
    exact ⟨by rw [F.out]; rfl, hb1⟩
set_option maxRecDepth 100000 in
set_option maxHeartbeats 2000000 in
theorem same9_any (n : Nat) (l : List Int) (hn : l.length = n) (A B : Option Addr) (b1 b2 c d : Nat) (w : World) (h : IntsAt w b1 (.slice A n c) l) (k : IntsAt w b2 (.slice B n d) l) (hl : n ≤ 1000000000000000) :
    Calls Tryd.prog 83 #[.slice A n c, .slice B n d] w fun e w' => e = .returned (.bool true) ∧ Below w.heap.size w w' := by
  subst hn
  have H := Lib.hid h
  have K := Lib.hid k
  clear h k
  have s1 : ((l.length : Int) != (l.length : Int)) = false := by simp
  go_enter Tryd.func83, Tryd.ntmps83
  go_wp2_with fail
  go_loopw [5] (fun i wr => ∃ j : Nat, j ≤ l.length ∧ i = .int .i64 j ∧ Below w.heap.size w wr) (fun i wr => l.length - (intOf i).toNat)
  case atStart => exact ⟨0, Nat.zero_le _, rfl, Below.refl _ _⟩
  case round =>
    obtain ⟨j, hj, rfl, hB⟩ := hrel
    by_cases hlt : j < l.length
    · obtain ⟨g1, hA, d0⟩ := (H.out.below hB).cells hlt
      obtain ⟨g2, hBa, e0⟩ := (K.out.below hB).cells hlt
      subst hA hBa
      have hi1 : (j : Int) < (l.length : Int) := by omega
      have hi0 : (0 : Int) ≤ (j : Int) := Int.natCast_nonneg _
      generalize l[j] = x at *
      have s2 : (x != x) = false := by simp
      go_wp2
      go_quiet (fail)
      go_wp2
      go_roundw
      case rel => exact ⟨j + 1, by omega, by go_num, below_drewN hB _⟩
      case measure => simp [intOf]; omega
    · go_wp2
      go_ret
      exact ⟨rfl, hB⟩
set_option maxRecDepth 100000 in
set_option maxHeartbeats 4000000 in
theorem rnot_any (t : TestD) (w : World) (hs : t.a.text.size ≤ 9223372036854775807) (hs2 : t.b.text.size ≤ 9223372036854775807) :
    Calls Tryd.prog 82 #[aggT t] w fun e w' => e = .returned (.tuple #[aggT (notE t).1, .bool (notE t).2]) ∧ Below w.heap.size w w' := by
  have hB := below_then (below_one w (.cells (valsA t) 51)) (below_one _ (.cells (valsA zeroT) 51))
  have T1 := (TBlk.new w t 51).below (below_one _ (.cells (valsA zeroT) 51))
  have T2 := TBlk.new (w.alloc (.cells (valsA t) 51)) zeroT 51
  rw [World.size_alloc] at T2
  have HB := Lib.hid hB
  have H1 := Lib.hid T1
  have H2 := Lib.hid T2
  clear hB T1 T2
  cases ht : testB t
  · have F := Lib.hid (notE_no ht)
    have HH := Lib.hid ht
    clear ht
    go_enter Tryd.func82, Tryd.ntmps82
    go_wp2_with fail
    refine (rtest_any t _ hs hs2).mono ?_
    rintro e w1 ⟨rfl, hb⟩
    rw [HH.out]
    have hB1 := below_then HB.out hb
    have K := H2.out.below hb
    have C7 := set7_cells (t := zeroT) K
    have B7 := set7_below (q := w.heap.size + 1) (t := zeroT) hB1 (by omega)
    obtain ⟨⟨c0, c1, c2, c3, c4, c5, c6⟩, fr⟩ := K
    simp only [Nat.zero_add] at c1 c2 c3 c4 c5 c6
    have f0 := fr 0
    have f1 := fr 1
    have f2 := fr 2
    have f3 := fr 3
    have f4 := fr 4
    have f5 := fr 5
    have f6 := fr 6
    go_wp2
    exact bodyPost_ret (v := .tuple #[aggT zeroT, .bool false]) (by simp [results, Tryd.results82, go_sem, cs_same, cs_some, c0, c1, c2, c3, c4, c5, c6]; exact ⟨rfl, rfl, rfl, rfl, rfl, rfl, rfl⟩) rfl ⟨by rw [F.out], B7⟩
  · by_cases ho : 6 < t.op
    · have F := Lib.hid (notE_one ho)
      have HH := Lib.hid ht
      clear ht
      go_enter Tryd.func82, Tryd.ntmps82
      go_wp2_with fail
      refine (rtest_any t _ hs hs2).mono ?_
      rintro e w1 ⟨rfl, hb⟩
      rw [HH.out]
      have hB1 := below_then HB.out hb
      have K := H2.out.below hb
      have K1 := (H1.out.below hb).at_.op
      have B7 := set7_below (q := w.heap.size + 1) (t := zeroT) hB1 (by omega)
      obtain ⟨⟨c0, c1, c2, c3, c4, c5, c6⟩, fr⟩ := K
      simp only [Nat.zero_add] at c1 c2 c3 c4 c5 c6
      have f0 := fr 0
      have f1 := fr 1
      have f2 := fr 2
      have f3 := fr 3
      have f4 := fr 4
      have f5 := fr 5
      have f6 := fr 6
      go_wp2
      exact bodyPost_ret (v := .tuple #[aggT zeroT, .bool false]) (by simp [results, Tryd.results82, go_sem, cs_same, cs_some, c0, c1, c2, c3, c4, c5, c6]; exact ⟨rfl, rfl, rfl, rfl, rfl, rfl, rfl⟩) rfl ⟨by rw [F.out], B7⟩
    · have ho' : t.op ≤ 6 := by omega
      have F := Lib.hid (notE_yes ht ho')
      have HH := Lib.hid ht
      have h1 := test_op ht
      clear ht ho
      obtain ⟨op, a, b⟩ := t
      simp only at h1 ho' hs hs2
      rcases op_six h1 ho' with rfl | rfl | rfl | rfl | rfl | rfl
      · clear h1 ho'
        have hix : ∀ W, (Instr.index 154 (.agg #[.int .i64 0, .int .i64 2, .int .i64 1, .int .i64 6, .int .i64 5, .int .i64 4, .int .i64 3]) (.int .i64 1)).run Tryd.prog W = .ok (.int .i64 2) W := fun W => by kernel_rfl
        go_enter Tryd.func82, Tryd.ntmps82
        go_wp2_with fail
        refine (rtest_any ⟨1, a, b⟩ _ hs hs2).mono ?_
        rintro e w1 ⟨rfl, hb⟩
        rw [HH.out]
        have hB1 := below_then HB.out hb
        have K := H2.out.below hb
        have K1 := H1.out.below hb
        obtain ⟨⟨c0, c1, c2, c3, c4, c5, c6⟩, fr⟩ := K
        obtain ⟨⟨a0, a1, a2, a3, a4, a5, a6⟩, gr⟩ := K1
        simp only [Nat.zero_add] at c1 c2 c3 c4 c5 c6 a0 a1 a2 a3 a4 a5 a6
        have f0 := fr 0
        have f1 := fr 1
        have f2 := fr 2
        have f3 := fr 3
        have f4 := fr 4
        have f5 := fr 5
        have f6 := fr 6
        have g0 := gr 0
        have s0 : ∀ v, (w1.setCell ⟨w.heap.size, 0, none⟩ v).cell? ⟨w.heap.size, 0, none⟩ = some v := fun v => World.cell?_setCell_same _ _ _ a0
        have B7 := fun v => set7_below (q := w.heap.size + 1) (t := notT ⟨1, a, b⟩) (hB1.setCell (p := ⟨w.heap.size, 0, none⟩) (Nat.le_refl _) v) (by omega)
        have HB7 := Lib.hid B7
        clear B7 hB1 hb fr gr
        go_wp2
        refine bodyPost_ret (v := .tuple #[aggT (notT ⟨1, a, b⟩), .bool true]) (by simp [results, Tryd.results82, go_sem, cs_same, cs_some, c0, c1, c2, c3, c4, c5, c6, notT, flipOp]) rfl ⟨by rw [F.out], ?_⟩
        exact HB7.out (.int .i64 2)
      · clear h1 ho'
        have hix : ∀ W, (Instr.index 154 (.agg #[.int .i64 0, .int .i64 2, .int .i64 1, .int .i64 6, .int .i64 5, .int .i64 4, .int .i64 3]) (.int .i64 2)).run Tryd.prog W = .ok (.int .i64 1) W := fun W => by kernel_rfl
        go_enter Tryd.func82, Tryd.ntmps82
        go_wp2_with fail
        refine (rtest_any ⟨2, a, b⟩ _ hs hs2).mono ?_
        rintro e w1 ⟨rfl, hb⟩
        rw [HH.out]
        have hB1 := below_then HB.out hb
        have K := H2.out.below hb
        have K1 := H1.out.below hb
        obtain ⟨⟨c0, c1, c2, c3, c4, c5, c6⟩, fr⟩ := K
        obtain ⟨⟨a0, a1, a2, a3, a4, a5, a6⟩, gr⟩ := K1
        simp only [Nat.zero_add] at c1 c2 c3 c4 c5 c6 a0 a1 a2 a3 a4 a5 a6
        have f0 := fr 0
        have f1 := fr 1
        have f2 := fr 2
        have f3 := fr 3
        have f4 := fr 4
        have f5 := fr 5
        have f6 := fr 6
        have g0 := gr 0
        have s0 : ∀ v, (w1.setCell ⟨w.heap.size, 0, none⟩ v).cell? ⟨w.heap.size, 0, none⟩ = some v := fun v => World.cell?_setCell_same _ _ _ a0
        have B7 := fun v => set7_below (q := w.heap.size + 1) (t := notT ⟨2, a, b⟩) (hB1.setCell (p := ⟨w.heap.size, 0, none⟩) (Nat.le_refl _) v) (by omega)
        have HB7 := Lib.hid B7
        clear B7 hB1 hb fr gr
        go_wp2
        refine bodyPost_ret (v := .tuple #[aggT (notT ⟨2, a, b⟩), .bool true]) (by simp [results, Tryd.results82, go_sem, cs_same, cs_some, c0, c1, c2, c3, c4, c5, c6, notT, flipOp]) rfl ⟨by rw [F.out], ?_⟩
        exact HB7.out (.int .i64 1)
      · clear h1 ho'
        have hix : ∀ W, (Instr.index 154 (.agg #[.int .i64 0, .int .i64 2, .int .i64 1, .int .i64 6, .int .i64 5, .int .i64 4, .int .i64 3]) (.int .i64 3)).run Tryd.prog W = .ok (.int .i64 6) W := fun W => by kernel_rfl
        go_enter Tryd.func82, Tryd.ntmps82
        go_wp2_with fail
        refine (rtest_any ⟨3, a, b⟩ _ hs hs2).mono ?_
        rintro e w1 ⟨rfl, hb⟩
        rw [HH.out]
        have hB1 := below_then HB.out hb
        have K := H2.out.below hb
        have K1 := H1.out.below hb
        obtain ⟨⟨c0, c1, c2, c3, c4, c5, c6⟩, fr⟩ := K
        obtain ⟨⟨a0, a1, a2, a3, a4, a5, a6⟩, gr⟩ := K1
        simp only [Nat.zero_add] at c1 c2 c3 c4 c5 c6 a0 a1 a2 a3 a4 a5 a6
        have f0 := fr 0
        have f1 := fr 1
        have f2 := fr 2
        have f3 := fr 3
        have f4 := fr 4
        have f5 := fr 5
        have f6 := fr 6
        have g0 := gr 0
        have s0 : ∀ v, (w1.setCell ⟨w.heap.size, 0, none⟩ v).cell? ⟨w.heap.size, 0, none⟩ = some v := fun v => World.cell?_setCell_same _ _ _ a0
        have B7 := fun v => set7_below (q := w.heap.size + 1) (t := notT ⟨3, a, b⟩) (hB1.setCell (p := ⟨w.heap.size, 0, none⟩) (Nat.le_refl _) v) (by omega)
        have HB7 := Lib.hid B7
        clear B7 hB1 hb fr gr
        go_wp2
        refine bodyPost_ret (v := .tuple #[aggT (notT ⟨3, a, b⟩), .bool true]) (by simp [results, Tryd.results82, go_sem, cs_same, cs_some, c0, c1, c2, c3, c4, c5, c6, notT, flipOp]) rfl ⟨by rw [F.out], ?_⟩
        exact HB7.out (.int .i64 6)
      · clear h1 ho'
        have hix : ∀ W, (Instr.index 154 (.agg #[.int .i64 0, .int .i64 2, .int .i64 1, .int .i64 6, .int .i64 5, .int .i64 4, .int .i64 3]) (.int .i64 4)).run Tryd.prog W = .ok (.int .i64 5) W := fun W => by kernel_rfl
        go_enter Tryd.func82, Tryd.ntmps82
        go_wp2_with fail
        refine (rtest_any ⟨4, a, b⟩ _ hs hs2).mono ?_
        rintro e w1 ⟨rfl, hb⟩
        rw [HH.out]
        have hB1 := below_then HB.out hb
        have K := H2.out.below hb
        have K1 := H1.out.below hb
        obtain ⟨⟨c0, c1, c2, c3, c4, c5, c6⟩, fr⟩ := K
        obtain ⟨⟨a0, a1, a2, a3, a4, a5, a6⟩, gr⟩ := K1
        simp only [Nat.zero_add] at c1 c2 c3 c4 c5 c6 a0 a1 a2 a3 a4 a5 a6
        have f0 := fr 0
        have f1 := fr 1
        have f2 := fr 2
        have f3 := fr 3
        have f4 := fr 4
        have f5 := fr 5
        have f6 := fr 6
        have g0 := gr 0
        have s0 : ∀ v, (w1.setCell ⟨w.heap.size, 0, none⟩ v).cell? ⟨w.heap.size, 0, none⟩ = some v := fun v => World.cell?_setCell_same _ _ _ a0
        have B7 := fun v => set7_below (q := w.heap.size + 1) (t := notT ⟨4, a, b⟩) (hB1.setCell (p := ⟨w.heap.size, 0, none⟩) (Nat.le_refl _) v) (by omega)
        have HB7 := Lib.hid B7
        clear B7 hB1 hb fr gr
        go_wp2
        refine bodyPost_ret (v := .tuple #[aggT (notT ⟨4, a, b⟩), .bool true]) (by simp [results, Tryd.results82, go_sem, cs_same, cs_some, c0, c1, c2, c3, c4, c5, c6, notT, flipOp]) rfl ⟨by rw [F.out], ?_⟩
        exact HB7.out (.int .i64 5)
      · clear h1 ho'
        have hix : ∀ W, (Instr.index 154 (.agg #[.int .i64 0, .int .i64 2, .int .i64 1, .int .i64 6, .int .i64 5, .int .i64 4, .int .i64 3]) (.int .i64 5)).run Tryd.prog W = .ok (.int .i64 4) W := fun W => by kernel_rfl
        go_enter Tryd.func82, Tryd.ntmps82
        go_wp2_with fail
        refine (rtest_any ⟨5, a, b⟩ _ hs hs2).mono ?_
        rintro e w1 ⟨rfl, hb⟩
        rw [HH.out]
        have hB1 := below_then HB.out hb
        have K := H2.out.below hb
        have K1 := H1.out.below hb
        obtain ⟨⟨c0, c1, c2, c3, c4, c5, c6⟩, fr⟩ := K
        obtain ⟨⟨a0, a1, a2, a3, a4, a5, a6⟩, gr⟩ := K1
        simp only [Nat.zero_add] at c1 c2 c3 c4 c5 c6 a0 a1 a2 a3 a4 a5 a6
        have f0 := fr 0
        have f1 := fr 1
        have f2 := fr 2
        have f3 := fr 3
        have f4 := fr 4
        have f5 := fr 5
        have f6 := fr 6
        have g0 := gr 0
        have s0 : ∀ v, (w1.setCell ⟨w.heap.size, 0, none⟩ v).cell? ⟨w.heap.size, 0, none⟩ = some v := fun v => World.cell?_setCell_same _ _ _ a0
        have B7 := fun v => set7_below (q := w.heap.size + 1) (t := notT ⟨5, a, b⟩) (hB1.setCell (p := ⟨w.heap.size, 0, none⟩) (Nat.le_refl _) v) (by omega)
        have HB7 := Lib.hid B7
        clear B7 hB1 hb fr gr
        go_wp2
        refine bodyPost_ret (v := .tuple #[aggT (notT ⟨5, a, b⟩), .bool true]) (by simp [results, Tryd.results82, go_sem, cs_same, cs_some, c0, c1, c2, c3, c4, c5, c6, notT, flipOp]) rfl ⟨by rw [F.out], ?_⟩
        exact HB7.out (.int .i64 4)
      · clear h1 ho'
        have hix : ∀ W, (Instr.index 154 (.agg #[.int .i64 0, .int .i64 2, .int .i64 1, .int .i64 6, .int .i64 5, .int .i64 4, .int .i64 3]) (.int .i64 6)).run Tryd.prog W = .ok (.int .i64 3) W := fun W => by kernel_rfl
        go_enter Tryd.func82, Tryd.ntmps82
        go_wp2_with fail
        refine (rtest_any ⟨6, a, b⟩ _ hs hs2).mono ?_
        rintro e w1 ⟨rfl, hb⟩
        rw [HH.out]
        have hB1 := below_then HB.out hb
        have K := H2.out.below hb
        have K1 := H1.out.below hb
        obtain ⟨⟨c0, c1, c2, c3, c4, c5, c6⟩, fr⟩ := K
        obtain ⟨⟨a0, a1, a2, a3, a4, a5, a6⟩, gr⟩ := K1
        simp only [Nat.zero_add] at c1 c2 c3 c4 c5 c6 a0 a1 a2 a3 a4 a5 a6
        have f0 := fr 0
        have f1 := fr 1
        have f2 := fr 2
        have f3 := fr 3
        have f4 := fr 4
        have f5 := fr 5
        have f6 := fr 6
        have g0 := gr 0
        have s0 : ∀ v, (w1.setCell ⟨w.heap.size, 0, none⟩ v).cell? ⟨w.heap.size, 0, none⟩ = some v := fun v => World.cell?_setCell_same _ _ _ a0
        have B7 := fun v => set7_below (q := w.heap.size + 1) (t := notT ⟨6, a, b⟩) (hB1.setCell (p := ⟨w.heap.size, 0, none⟩) (Nat.le_refl _) v) (by omega)
        have HB7 := Lib.hid B7
        clear B7 hB1 hb fr gr
        go_wp2
        refine bodyPost_ret (v := .tuple #[aggT (notT ⟨6, a, b⟩), .bool true]) (by simp [results, Tryd.results82, go_sem, cs_same, cs_some, c0, c1, c2, c3, c4, c5, c6, notT, flipOp]) rfl ⟨by rw [F.out], ?_⟩
        exact HB7.out (.int .i64 3)
set_option maxRecDepth 100000 in
set_option maxHeartbeats 4000000 in
theorem guardTests_any (op : Int) (a b : List CellD) (A B : Option Addr) (c d : Nat) (t : TestD) (g : List TestD) (G : Option Addr) (cg : Nat) (w : World) (hr : Reads w A a) (hr2 : Reads w B b) (hf : Fine a) (hf2 : Fine b) (hc : a.length ≤ c) (hd : b.length ≤ d)
    (hs : t.a.text.size ≤ 9223372036854775807) (hs2 : t.b.text.size ≤ 9223372036854775807) (hg : TReads w G g) (hlg : g.length ≤ 1000000000000000) (hT : Tabs w) :
    Calls Tryd.prog 17 #[.int .i64 op, .slice A a.length c, .slice B b.length d, aggT t, .slice G g.length cg] w fun e w' => e = .returned (.bool true) ∧ Below w.heap.size w w' := by
  have HR := Lib.hid hr
  have HR2 := Lib.hid hr2
  have HG := Lib.hid hg
  have HF := Lib.hid hf
  have HF2 := Lib.hid hf2
  have HT := Lib.hid hT
  have hB0 := below_one w (.cells (valsA t) 51)
  have HB0 := Lib.hid hB0
  have T0 := Lib.hid (TBlk.new w t 51)
  have hln := asks_len g
  obtain ⟨⟨n, y⟩, hny⟩ : ∃ ny : TestD × Bool, notE t = ny := ⟨_, rfl⟩
  have HN := Lib.hid hny
  clear hr hr2 hf hf2 hg hT hB0 hny
  go_enter Tryd.func17, Tryd.ntmps17
  go_wp2_with fail
  refine (gone_any op a b A B c d _ (HR.out.below HB0.out) (HR2.out.below HB0.out) HF.out HF2.out hc hd (Utf8Tabs_below HT.out HB0.out)).mono ?_
  rintro e w1 ⟨rfl, hb1⟩
  have hB1 := below_then HB0.out hb1
  go_wp2_with fail
  refine (rone_any op a b A B c d _ (HR.out.below hB1) (HR2.out.below hB1) HF.out HF2.out).mono ?_
  rintro e w2 ⟨rfl, hb2⟩
  have hB2 := below_then hB1 hb2
  have T2 := (T0.out.below hb1).below hb2
  have HT2 := Lib.hid T2
  have HB2 := Lib.hid hB2
  generalize (oneE op a b).1 = o1 at *
  generalize (oneE op a b).2 = o2 at *
  obtain ⟨⟨a0, a1, a2, a3, a4, a5, a6⟩, gr⟩ := T2
  simp only [Nat.zero_add] at a1 a2 a3 a4 a5 a6
  clear gr hb1 hb2 hB1 hB2
  go_wp2_with fail
  refine (gnot_any t _ hs hs2 (Utf8Tabs_below HT.out HB2.out)).mono ?_
  rintro e w3 ⟨rfl, hb3⟩
  have hB3 := below_then HB2.out hb3
  rw [HN.out]
  have T3 := (HT2.out.below hb3).below (below_one w3 (.cells (valsA n) 51))
  have N3 := Lib.hid (TBlk.new w3 n 51)
  have HB3 := Lib.hid (below_alloc' hB3 (.cells (valsA n) 51))
  obtain ⟨⟨b0, b1, b2, b3, b4, b5, b6⟩, gr⟩ := T3
  simp only [Nat.zero_add] at b1 b2 b3 b4 b5 b6
  clear gr hb3 hB3 a0 a1 a2 a3 a4 a5 a6
  go_wp2_with fail
  refine (rnot_any t _ hs hs2).mono ?_
  rintro e w4 ⟨rfl, hb4⟩
  rw [HN.out]
  have hB4 := below_then HB3.out hb4
  have T4 := (N3.out.below hb4).below (below_one w4 (.cells (valsA n) 51))
  have HB4 := Lib.hid (below_alloc' hB4 (.cells (valsA n) 51))
  have HG4 := Lib.hid (HG.out.below HB4.out)
  obtain ⟨⟨n0, n1, n2, n3, n4, n5, n6⟩, gr⟩ := T4
  simp only [Nat.zero_add] at n1 n2 n3 n4 n5 n6
  clear gr hb4 hB4 b0 b1 b2 b3 b4 b5 b6
  go_wp2_with fail
  refine (asks_any g G cg _ HG4.out hlg).mono ?_
  rintro e w5 ⟨A5, c5, rfl, hI5, hb5⟩
  have hB5 := below_then HB4.out hb5
  have HI5 := Lib.hid hI5
  clear hI5 n0 n1 n2 n3 n4 n5 n6
  go_wp2_with fail
  refine (rasks_any g G cg _ (HG.out.below hB5) hlg).mono ?_
  rintro e w6 ⟨A6, c6, rfl, hI6, hb6⟩
  have hB6 := below_then hB5 hb6
  have HI6 := Lib.hid hI6
  have HI5b := Lib.hid (HI5.out.below hb6)
  clear hI6 hb5 hb6 hB5
  go_wp2_with fail
  refine (same9_any _ (asksD g) rfl A5 A6 _ _ c5 c6 _ HI5b.out HI6.out (by omega)).mono ?_
  rintro e w7 ⟨rfl, hb7⟩
  have hB7 := below_then hB6 hb7
  clear hb7 hB6
  go_wp2_with fail
  refine (known9_any _ (Utf8Tabs_below HT.out hB7)).mono ?_
  rintro e w8 ⟨rfl, hb8⟩
  go_wp2
  go_ret
  exact ⟨rfl, below_then hB7 hb8⟩
theorem guardTests_row (op : Int) (A : Option Addr) (c : Nat) (a : List CellD) (B : Option Addr) (d : Nat) (b : List CellD) (t : TestD) (G : Option Addr) (cg : Nat) (g : List TestD) (w : World) (hT : Tabs w) (ho : (Lit.int .i64 op).wf = true) (hc : a.length ≤ c) (hr : Reads w A a) (hs1 : ∀ j (h : j < a.length), (a[j]).text.size ≤ 9223372036854775807) (hy : a.length * 32 ≤ 140737488351232)
    (hd : b.length ≤ d) (hr2 : Reads w B b) (hs2 : ∀ j (h : j < b.length), (b[j]).text.size ≤ 9223372036854775807) (hy2 : b.length * 32 ≤ 140737488351232) (hs : t.a.text.size ≤ 9223372036854775807 ∧ t.b.text.size ≤ 9223372036854775807) (hcg : g.length ≤ cg) (hg : TReads w G g) (hfg : FineT g) :
    Calls Tryd.prog 17 #[.int .i64 op, .slice A a.length c, .slice B b.length d, aggT t, .slice G g.length cg] w fun e w' => e = .returned (.bool true) ∧ Below w.heap.size w w' :=
  guardTests_any op a b A B c d t g G cg w hr hr2 ⟨hy, hs1⟩ ⟨hy2, hs2⟩ hc hd hs.1 hs.2 hg (by have := hfg.len; omega) hT
end Go.Proofs.YtefpolgflimlgaaDoor.Tm
