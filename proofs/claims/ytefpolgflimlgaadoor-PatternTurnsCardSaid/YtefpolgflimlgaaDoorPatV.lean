/- Covers, of both texts. -/
import Derived.Test.YtefpolgflimlgaaDoorMatch
namespace Go.Proofs.YtefpolgflimlgaaDoor.Tm
open Go.RowKit
set_option linter.unusedVariables false
set_option linter.unusedSimpArgs false

theorem cv_p {p q : List CellD} (h : (prightE p).1 ≠ 0) : coversE p q = (false, (prightE p).1) := by rw [coversE, if_pos h]
theorem cv_q {p q : List CellD} (h : (prightE p).1 = 0) (k : (prightE q).1 ≠ 0) : coversE p q = (false, (prightE q).1) := by rw [coversE, if_neg (by simp [h]), if_pos k]
theorem cov_no {c d : CellD} {p q : List CellD} (h : ¬ (c.kind = 11 ∨ c.kind = 12)) (e : d ≠ c) : coversL (c :: p) (d :: q) = false := by
  rw [coversL, if_neg h, List.head?_cons, if_neg (fun h => e (by injection h))]
/-- What both loops keep. -/
def CovInv (p q : List CellD) (i j : Nat) : Prop := coversL p q = coversL (p.drop i) (q.drop j) ∧ ∃ o : Int, PGood (p.drop i) o ∧ Wf (q.drop j) o
theorem CovInv.start {p q : List CellD} (h : (prightE p).1 = 0) (k : (prightE q).1 = 0) : CovInv p q 0 0 := ⟨rfl, 1, (prightE_ok h).1, (prightE_ok k).1.wf⟩
theorem CovInv.lt {p q : List CellD} {i j : Nat} (h : CovInv p q i j) (hi : i < p.length) : j < q.length := by
  obtain ⟨_, o, hg, hw⟩ := h
  rw [List.drop_eq_getElem_cons hi] at hg
  rcases Nat.lt_or_ge j q.length with h1 | h1
  · exact h1
  · exact absurd (List.drop_eq_nil_of_le h1) (hw.ne hg.2.1)
theorem CovInv.any {p q : List CellD} {i j : Nat} (h : CovInv p q i j) (hi : i < p.length) (k : p[i].kind = 11 ∨ p[i].kind = 12) : endE q j = (((j + spanK (q.drop j) 1 : Nat) : Int), 0) ∧ j + spanK (q.drop j) 1 ≤ q.length ∧ CovInv p q (i + 1) (j + spanK (q.drop j) 1) := by
  have hj := h.lt hi
  obtain ⟨he, o, hg, hw⟩ := h
  rw [List.drop_eq_getElem_cons hi] at hg he
  obtain ⟨e1, e2, _⟩ := endE_suffix hw hg.2.1 hj
  refine ⟨e1, e2, by rw [he, cov_any k, drop_span], o - 1, by have := hg.2.2; rw [any_kids k] at this; simpa using this, by rw [drop_span]; simpa using hw.skip (k := 1) (by have := hg.2.1; omega)⟩
theorem CovInv.same {p q : List CellD} {i j : Nat} (h : CovInv p q i j) (hi : i < p.length) (hj : j < q.length) (k : ¬ (p[i].kind = 11 ∨ p[i].kind = 12)) (e : q[j] = p[i]) : CovInv p q (i + 1) (j + 1) := by
  obtain ⟨he, o, hg, hw⟩ := h
  rw [List.drop_eq_getElem_cons hi] at hg he
  rw [List.drop_eq_getElem_cons hj, e] at hw he
  exact ⟨by rw [he, cov_cons k], _, hg.2.2, hw.2⟩
theorem CovInv.no {p q : List CellD} {i j : Nat} (h : CovInv p q i j) (hi : i < p.length) (hj : j < q.length) (k : ¬ (p[i].kind = 11 ∨ p[i].kind = 12)) (e : q[j] ≠ p[i]) : coversL p q = false := by
  obtain ⟨he, _⟩ := h
  rw [List.drop_eq_getElem_cons hi, List.drop_eq_getElem_cons hj] at he
  rw [he, cov_no k e]
theorem CovInv.done {p q : List CellD} {j : Nat} (h : CovInv p q p.length j) : coversL p q = true := by
  rw [h.1, List.drop_length]; rfl
set_option maxRecDepth 100000 in
set_option maxHeartbeats 4000000 in
theorem rcovers8_any (p q : List CellD) (A B : Option Addr) (c d : Nat) (w : World) (hp : Reads w A p) (hq : Reads w B q) (h1 : (prightE p).1 = 0) (h2 : (prightE q).1 = 0) :
    Calls Tryd.prog 139 #[.slice A p.length c, .slice B q.length d] w fun e w' => e = .returned (.bool (coversL p q)) ∧ Below w.heap.size w w' := by
  have HP := Lib.hid hp
  have HQ := Lib.hid hq
  have hl1 := (prightE_ok h1).2.2
  have hl2 := (prightE_ok h2).2.2
  have HI := Lib.hid (CovInv.start h1 h2)
  clear hp hq h1 h2
  go_enter Tryd.func139, Tryd.ntmps139
  go_wp2_with fail
  go_loopw [5, 10] (fun a n wr => ∃ i j : Nat, i ≤ p.length ∧ n = .int .i64 i ∧ a = .int .i64 j ∧ j ≤ q.length ∧ Below w.heap.size w wr ∧ Hid (CovInv p q i j)) (fun a n wr => p.length - (intOf n).toNat)
  case atStart => exact ⟨0, 0, Nat.zero_le _, rfl, rfl, Nat.zero_le _, Below.refl _ _, HI⟩
  case round =>
    obtain ⟨i, j, hi, rfl, rfl, hj, hB, hI⟩ := hrel
    by_cases hip : i < p.length
    · obtain ⟨b, o, hA, hpc⟩ := HP.out i hip
      subst hA
      have hjq := hI.out.lt hip
      obtain ⟨b2, o2, hBq, hqc⟩ := HQ.out j hjq
      subst hBq
      obtain ⟨q0, q1, q2⟩ := hpc.below hB
      obtain ⟨t0, t1, t2⟩ := hqc.below (below_alloc' hB (.cells #[.int .i64 p[i].kind, .int .i64 p[i].n, .string p[i].text] 95))
      have hi1 : (i : Int) < (p.length : Int) := by omega
      have hi0 : (0 : Int) ≤ (i : Int) := Int.natCast_nonneg _
      have hj1 : (j : Int) < (q.length : Int) := by omega
      have hj0 : (0 : Int) ≤ (j : Int) := Int.natCast_nonneg _
      have IA := Lib.hid (hI.out.any hip)
      have IS := Lib.hid (hI.out.same hip hjq)
      have IN := Lib.hid (hI.out.no hip hjq)
      have HBa := Lib.hid (below_alloc' hB (.cells #[.int .i64 p[i].kind, .int .i64 p[i].n, .string p[i].text] 95))
      clear hpc hqc hI
      generalize p[i] = y at *
      by_cases k11 : y.kind = 11
      · have e11 : (y.kind == 11) = true := by simp [k11]
        obtain ⟨f1, f2, f3⟩ := IA.out (.inl k11)
        have F1 := Lib.hid f1
        have F3 := Lib.hid f3
        generalize j + spanK (q.drop j) 1 = m at *
        clear IA IS IN k11 f1 f3 t0 t1 t2
        go_wp2_with fail
        refine (prend_any q (some ⟨b2, o2, none⟩) d j _ (HQ.out.below HBa.out) (by omega) (by omega)).mono ?_
        rintro e w2 ⟨rfl, hb2⟩
        rw [F1.out]
        go_wp2
        go_roundw
        case rel => exact ⟨i + 1, m, by omega, by go_num, rfl, f2, below_then HBa.out hb2, F3⟩
        case measure => simp [intOf]; omega
      · have e11 : (y.kind == 11) = false := beq_eq_false_iff_ne.2 k11
        by_cases k12 : y.kind = 12
        · have e12 : (y.kind == 12) = true := by simp [k12]
          obtain ⟨f1, f2, f3⟩ := IA.out (.inr k12)
          have F1 := Lib.hid f1
          have F3 := Lib.hid f3
          generalize j + spanK (q.drop j) 1 = m at *
          clear IA IS IN k11 k12 f1 f3 t0 t1 t2
          go_wp2_with fail
          refine (prend_any q (some ⟨b2, o2, none⟩) d j _ (HQ.out.below HBa.out) (by omega) (by omega)).mono ?_
          rintro e w2 ⟨rfl, hb2⟩
          rw [F1.out]
          go_wp2
          go_roundw
          case rel => exact ⟨i + 1, m, by omega, by go_num, rfl, f2, below_then HBa.out hb2, F3⟩
          case measure => simp [intOf]; omega
        · have e12 : (y.kind == 12) = false := beq_eq_false_iff_ne.2 k12
          have HK := Lib.hid (show ¬ (y.kind = 11 ∨ y.kind = 12) from fun h => h.elim k11 k12)
          by_cases heq : q[j] = y
          · have F := Lib.hid (IS.out HK.out heq)
            rw [heq] at t0 t1 t2
            clear IA IS IN k11 k12 heq HK
            go_wp2
            go_quiet (fail)
            go_wp2
            go_roundw
            case rel => exact ⟨i + 1, j + 1, by omega, by go_num, by go_num, by omega, below_drewN HBa.out _, F⟩
            case measure => simp [intOf]; omega
          · have F := Lib.hid (IN.out HK.out heq)
            clear IA IS IN k11 k12 HK
            generalize q[j] = z at *
            by_cases hk : z.kind = y.kind
            · by_cases hn : z.n = y.n
              · have htx : (z.text.toList == y.text.toList) = false := text_ne heq hk hn
                rw [hk] at t0
                rw [hn] at t1
                clear heq hk hn
                go_wp2
                go_quiet (fail)
                go_wp2
                go_ret
                exact ⟨by rw [F.out]; rfl, below_drewN HBa.out _⟩
              · have htx : (z.n == y.n) = false := beq_eq_false_iff_ne.2 hn
                rw [hk] at t0
                clear heq hk
                go_wp2
                go_quiet (fail)
                go_wp2
                go_ret
                exact ⟨by rw [F.out]; rfl, below_drewN HBa.out _⟩
            · have htx : (z.kind == y.kind) = false := beq_eq_false_iff_ne.2 hk
              clear heq
              go_wp2
              go_quiet (fail)
              go_wp2
              go_ret
              exact ⟨by rw [F.out]; rfl, below_drewN HBa.out _⟩
    · obtain rfl : i = p.length := by omega
      have F := Lib.hid hI.out.done
      clear hI
      go_wp2
      go_ret
      exact ⟨by rw [F.out]; rfl, hB⟩
theorem ret_bi {a b : Bool} {c d : Int} (h : a = b) (h2 : c = d) : Ending.returned (.tuple #[.bool a, .int .i64 c]) = .returned (.tuple #[.bool b, .int .i64 d]) := by rw [h, h2]
set_option maxRecDepth 100000 in
set_option maxHeartbeats 4000000 in
theorem rcoversE_any (p q : List CellD) (A B : Option Addr) (c d : Nat) (w : World) (hp : Reads w A p) (hq : Reads w B q) (hf : Fine p) (hf2 : Fine q) (hc : p.length ≤ c) (hd : q.length ≤ d) :
    Calls Tryd.prog 84 #[.slice A p.length c, .slice B q.length d] w fun e w' => e = .returned (.tuple #[.bool (coversE p q).1, .int .i64 (coversE p q).2]) ∧ Below w.heap.size w w' := by
  have HP := Lib.hid hp
  have HQ := Lib.hid hq
  have HF := Lib.hid hf
  have HF2 := Lib.hid hf2
  clear hp hq hf hf2
  go_enter Tryd.func84, Tryd.ntmps84
  go_wp2_with fail
  refine (prright_any p A c _ HP.out HF.out hc).mono ?_
  rintro e w1 ⟨rfl, hb1⟩
  by_cases ep : (prightE p).1 ≠ 0
  · have tp : ((prightE p).1 != 0) = true := by rw [bne_iff_ne]; exact ep
    have F := Lib.hid (cv_p (q := q) ep)
    clear ep
    go_wp2
    go_ret2
    exact ⟨by rw [F.out]; rfl, hb1⟩
  have ep : (prightE p).1 = 0 := Decidable.not_not.1 ep
  have tp : ((prightE p).1 != 0) = false := by rw [bne_eq_false_iff_eq]; exact ep
  have EP := Lib.hid ep
  have HQ1 := Lib.hid (HQ.out.below hb1)
  clear ep
  go_wp2_with fail
  refine (prright_any q B d _ HQ1.out HF2.out hd).mono ?_
  rintro e w2 ⟨rfl, hb2⟩
  have hB2 := below_then hb1 hb2
  by_cases eq : (prightE q).1 ≠ 0
  · have tq : ((prightE q).1 != 0) = true := by rw [bne_iff_ne]; exact eq
    have F := Lib.hid (cv_q EP.out eq)
    clear eq
    go_wp2
    go_ret2
    exact ⟨by rw [F.out]; rfl, hB2⟩
  have eq : (prightE q).1 = 0 := Decidable.not_not.1 eq
  have tq : ((prightE q).1 != 0) = false := by rw [bne_eq_false_iff_eq]; exact eq
  have EQ := Lib.hid eq
  have FC := Lib.hid (covers_eq EP.out EQ.out)
  clear eq hb1 hb2
  go_wp2_with fail
  refine (rcovers8_any p q A B c d _ (HP.out.below hB2) (HQ.out.below hB2) EP.out EQ.out).mono ?_
  rintro e w3 ⟨rfl, hb3⟩
  go_wp2
  go_ret2
  exact ⟨by rw [FC.out]; rfl, below_then hB2 hb3⟩
set_option maxRecDepth 100000 in
set_option maxHeartbeats 8000000 in
theorem pcovers_any (p q : List CellD) (A B : Option Addr) (c d : Nat) (w : World) (hp : Reads w A p) (hq : Reads w B q) (hf : Fine p) (hf2 : Fine q) (hT : Tabs w) :
    Calls Tryd.prog 78 #[.slice A p.length c, .slice B q.length d] w fun e w' => e = .returned (.tuple #[.bool (coversE p q).1, .int .i64 (coversE p q).2]) ∧ Below w.heap.size w w' := by
  have HP := Lib.hid hp
  have HQ := Lib.hid hq
  have HF := Lib.hid hf
  have HF2 := Lib.hid hf2
  have HT := Lib.hid hT
  clear hp hq hf hf2 hT
  have hBn := below_one w (.cells #[.slice A p.length c, .slice B q.length d] 67)
  have n0 : (w.alloc (.cells #[.slice A p.length c, .slice B q.length d] 67)).cell? ⟨w.heap.size, 0, none⟩ = some (.slice A p.length c) := by go_cell
  have n1 : (w.alloc (.cells #[.slice A p.length c, .slice B q.length d] 67)).cell? ⟨w.heap.size, 1, none⟩ = some (.slice B q.length d) := by go_cell
  have HBn := Lib.hid hBn
  have N0 := Lib.hid n0
  have N1 := Lib.hid n1
  clear hBn n0 n1
  go_enter Tryd.func78, Tryd.ntmps78
  go_wp2_with fail
  go_loopw [17] (fun i wr => ∃ k : Nat, k ≤ 2 ∧ i = .int .i64 k ∧ Below w.heap.size w wr ∧ Hid (wr.cell? ⟨w.heap.size, 0, none⟩ = some (.slice A p.length c)) ∧ Hid (wr.cell? ⟨w.heap.size, 1, none⟩ = some (.slice B q.length d)) ∧ Hid ((1 ≤ k → (prightE p).1 = 0) ∧ (2 ≤ k → (prightE q).1 = 0))) (fun i wr => 2 - (intOf i).toNat)
  case atStart => exact ⟨0, Nat.zero_le _, rfl, HBn.out, N0.out, N1.out, fun h => by omega, fun h => by omega⟩
  case round =>
    obtain ⟨k, hk, rfl, hB, h0, h1, hH⟩ := hrel
    have hk3 : k = 0 ∨ k = 1 ∨ k = 2 := by omega
    rcases hk3 with rfl | rfl | rfl
    · have c0 := h0.out
      go_wp2_with fail
      refine (pright_any p A c _ (HP.out.below hB) HF.out (Utf8Tabs_below HT.out hB)).mono ?_
      rintro e w1 ⟨rfl, hb1⟩
      have hB1 := below_then hB hb1
      have K0 := Lib.hid (cell_below hb1 h0.out)
      have K1 := Lib.hid (cell_below hb1 h1.out)
      clear c0
      by_cases ep : (prightE p).1 ≠ 0
      · have tp : ((prightE p).1 != 0) = true := by rw [bne_iff_ne]; exact ep
        have F := Lib.hid (cv_p (q := q) ep)
        clear ep
        go_wp2
        go_ret2
        exact ⟨by rw [F.out]; rfl, hB1⟩
      have ep : (prightE p).1 = 0 := Decidable.not_not.1 ep
      have tp : ((prightE p).1 != 0) = false := by rw [bne_eq_false_iff_eq]; exact ep
      have EP := Lib.hid ep
      clear ep
      go_wp2
      go_roundw
      case rel => exact ⟨1, by omega, by go_num, hB1, K0, K1, fun _ => EP.out, fun h => by omega⟩
      case measure => simp [intOf]
    · have c1 := h1.out
      have EP := Lib.hid (hH.out.1 (by omega))
      go_wp2_with fail
      refine (pright_any q B d _ (HQ.out.below hB) HF2.out (Utf8Tabs_below HT.out hB)).mono ?_
      rintro e w1 ⟨rfl, hb1⟩
      have hB1 := below_then hB hb1
      have K0 := Lib.hid (cell_below hb1 h0.out)
      have K1 := Lib.hid (cell_below hb1 h1.out)
      clear c1
      by_cases eq : (prightE q).1 ≠ 0
      · have tp : ((prightE q).1 != 0) = true := by rw [bne_iff_ne]; exact eq
        have F := Lib.hid (cv_q EP.out eq)
        clear eq
        go_wp2
        go_ret2
        exact ⟨by rw [F.out]; rfl, hB1⟩
      have eq : (prightE q).1 = 0 := Decidable.not_not.1 eq
      have tp : ((prightE q).1 != 0) = false := by rw [bne_eq_false_iff_eq]; exact eq
      have EQ := Lib.hid eq
      clear eq
      go_wp2
      go_roundw
      case rel => exact ⟨2, by omega, by go_num, hB1, K0, K1, fun _ => EP.out, fun _ => EQ.out⟩
      case measure => simp [intOf]
    · have EP := Lib.hid (hH.out.1 (by omega))
      have EQ := Lib.hid (hH.out.2 (by omega))
      have FC := Lib.hid (covers_eq EP.out EQ.out)
      have hl1 := (prightE_ok EP.out).2.2
      have hl2 := (prightE_ok EQ.out).2.2
      have HI := Lib.hid (CovInv.start EP.out EQ.out)
      have hB0 := hB
      clear hH h0 h1 hB
      go_wp2_with fail
      go_loopw [10, 32] (fun a n wr => ∃ i j : Nat, i ≤ p.length ∧ n = .int .i64 i ∧ a = .int .i64 j ∧ j ≤ q.length ∧ Below w.heap.size w wr ∧ Hid (CovInv p q i j)) (fun a n wr => p.length - (intOf n).toNat)
      case atStart => exact ⟨0, 0, Nat.zero_le _, rfl, rfl, Nat.zero_le _, hB0, HI⟩
      case round =>
        obtain ⟨i, j, hi, rfl, rfl, hj, hB, hI⟩ := hrel
        by_cases hip : i < p.length
        · obtain ⟨b, o, hA, hpc⟩ := HP.out i hip
          subst hA
          have hjq := hI.out.lt hip
          obtain ⟨b2, o2, hBq, hqc⟩ := HQ.out j hjq
          subst hBq
          obtain ⟨q0, q1, q2⟩ := hpc.below hB
          obtain ⟨t0, t1, t2⟩ := hqc.below (below_alloc' hB (.cells #[.int .i64 p[i].kind, .int .i64 p[i].n, .string p[i].text] 95))
          have hi1 : (i : Int) < (p.length : Int) := by omega
          have hi0 : (0 : Int) ≤ (i : Int) := Int.natCast_nonneg _
          have hj1 : (j : Int) < (q.length : Int) := by omega
          have hj0 : (0 : Int) ≤ (j : Int) := Int.natCast_nonneg _
          have IA := Lib.hid (hI.out.any hip)
          have IS := Lib.hid (hI.out.same hip hjq)
          have IN := Lib.hid (hI.out.no hip hjq)
          have HBa := Lib.hid (below_alloc' hB (.cells #[.int .i64 p[i].kind, .int .i64 p[i].n, .string p[i].text] 95))
          clear hpc hqc hI
          generalize p[i] = y at *
          by_cases k11 : y.kind = 11
          · have e11 : (y.kind == 11) = true := by simp [k11]
            obtain ⟨f1, f2, f3⟩ := IA.out (.inl k11)
            have F1 := Lib.hid f1
            have F3 := Lib.hid f3
            generalize j + spanK (q.drop j) 1 = m at *
            clear IA IS IN k11 f1 f3 t0 t1 t2
            go_wp2_with fail
            refine (pend_any q (some ⟨b2, o2, none⟩) d j _ (HQ.out.below HBa.out) (by omega) (by omega)).mono ?_
            rintro e w2 ⟨rfl, hb2⟩
            rw [F1.out]
            go_wp2
            go_roundw
            case rel => first | exact ⟨i + 1, m, by omega, by go_num, rfl, f2, below_then HBa.out hb2, F3⟩ | ((repeat apply Exists.intro); exact ⟨⟨i + 1, m, by omega, by go_num, rfl, f2, below_then HBa.out hb2, F3⟩, rfl⟩)
            case measure => simp [intOf]; omega
          · have e11 : (y.kind == 11) = false := beq_eq_false_iff_ne.2 k11
            by_cases k12 : y.kind = 12
            · have e12 : (y.kind == 12) = true := by simp [k12]
              obtain ⟨f1, f2, f3⟩ := IA.out (.inr k12)
              have F1 := Lib.hid f1
              have F3 := Lib.hid f3
              generalize j + spanK (q.drop j) 1 = m at *
              clear IA IS IN k11 k12 f1 f3 t0 t1 t2
              go_wp2_with fail
              refine (pend_any q (some ⟨b2, o2, none⟩) d j _ (HQ.out.below HBa.out) (by omega) (by omega)).mono ?_
              rintro e w2 ⟨rfl, hb2⟩
              rw [F1.out]
              go_wp2
              go_roundw
              case rel => first | exact ⟨i + 1, m, by omega, by go_num, rfl, f2, below_then HBa.out hb2, F3⟩ | ((repeat apply Exists.intro); exact ⟨⟨i + 1, m, by omega, by go_num, rfl, f2, below_then HBa.out hb2, F3⟩, rfl⟩)
              case measure => simp [intOf]; omega
            · have e12 : (y.kind == 12) = false := beq_eq_false_iff_ne.2 k12
              have HK := Lib.hid (show ¬ (y.kind = 11 ∨ y.kind = 12) from fun h => h.elim k11 k12)
              by_cases heq : q[j] = y
              · have F := Lib.hid (IS.out HK.out heq)
                rw [heq] at t0 t1 t2
                clear IA IS IN k11 k12 heq HK
                go_wp2
                go_quiet (fail)
                go_wp2
                go_roundw
                case rel => exact ⟨i + 1, j + 1, by omega, by go_num, by go_num, by omega, below_drewN HBa.out _, F⟩
                case measure => simp [intOf]; omega
              · have F := Lib.hid (IN.out HK.out heq)
                clear IA IS IN k11 k12 HK
                generalize q[j] = z at *
                by_cases hk : z.kind = y.kind
                · by_cases hn : z.n = y.n
                  · have htx : (z.text.toList == y.text.toList) = false := text_ne heq hk hn
                    rw [hk] at t0
                    rw [hn] at t1
                    clear heq hk hn
                    go_wp2
                    go_quiet (fail)
                    go_wp2
                    go_ret2
                    exact ⟨by rw [FC.out, F.out]; rfl, below_drewN HBa.out _⟩
                  · have htx : (z.n == y.n) = false := beq_eq_false_iff_ne.2 hn
                    rw [hk] at t0
                    clear heq hk
                    go_wp2
                    go_quiet (fail)
                    go_wp2
                    go_ret2
                    exact ⟨by rw [FC.out, F.out]; rfl, below_drewN HBa.out _⟩
                · have htx : (z.kind == y.kind) = false := beq_eq_false_iff_ne.2 hk
                  clear heq
                  go_wp2
                  go_quiet (fail)
                  go_wp2
                  go_ret2
                  exact ⟨by rw [FC.out, F.out]; rfl, below_drewN HBa.out _⟩
        · obtain rfl : i = p.length := by omega
          have F := Lib.hid hI.out.done
          clear hI
          go_wp2
          go_ret2
          exact ⟨by rw [FC.out, F.out]; rfl, hB⟩
end Go.Proofs.YtefpolgflimlgaaDoor.Tm
