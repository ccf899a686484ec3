/- Holds, both texts: holdsE. -/
import Derived.Test.YtefpolgflimlgaaDoorGuardV
import Derived.Test.YtefpolgflimlgaaDoorGuardR
import Derived.Test.YtefpolgflimlgaaDoorKnown5
namespace Go.Proofs.YtefpolgflimlgaaDoor.Tm
open Go.RowKit
set_option linter.unusedVariables false
set_option linter.unusedSimpArgs false

set_option maxRecDepth 100000 in
set_option maxHeartbeats 2000000 in
theorem rsays9_any (op : Int) (x : CellD) (a b : List CellD) (A B : Option Addr) (c d : Nat) (w : World) (hr : Reads w A (x :: a)) (hr2 : Reads w B b) (hl : (x :: a).length ≤ 1000000000000000) (hm : b.length ≤ 1000000000000000) (ho : opB op = true) :
    Calls Tryd.prog 138 #[.int .i64 op, .slice A (x :: a).length c, .slice B b.length d] w fun e w' => e = .returned (.bool (saysB op (x :: a) b)) ∧ Below w.heap.size w w' := by
  have HO := Lib.hid (order_any (x :: a) b A B c d w hr hr2 hl hm)
  obtain ⟨g, o, rfl, hx, _, _⟩ := hr 0 (by simp)
  have hx' : w.cell? ⟨g, o, none⟩ = some (.int .i64 x.kind) := by simpa using hx
  have hln : (x :: a).length = a.length + 1 := rfl
  have hi : (0 : Int) < ((x :: a).length : Int) := by rw [hln]; omega
  clear hr hr2 hx hln
  rcases op_cases ho with rfl | rfl | rfl | rfl | rfl | rfl | rfl | rfl | rfl | rfl | rfl | rfl | rfl
  iterate 6
    · generalize hn : (x :: a).length = n at *
      have HN := Lib.hid hn
      clear hn ho
      go_enter Tryd.func138, Tryd.ntmps138
      go_wp2_with fail
      refine HO.out.mono ?_
      rintro e w1 ⟨rfl, hb⟩
      go_wp2
      all_goals go_ret
      all_goals exact ⟨by simp [saysB, Bool.beq_eq_decide_eq, bne], hb⟩
  iterate 7
    · generalize hn : (x :: a).length = n at *
      have HN := Lib.hid hn
      clear hn ho
      go_enter Tryd.func138, Tryd.ntmps138
      go_wp2
      all_goals go_ret
      all_goals exact ⟨by simp_all [saysB, Bool.beq_eq_decide_eq], Below.refl _ _⟩
/-! what a test says -/
theorem hold_a {x : List (List CellD)} {t : TestD} (h : valueD t.a x = []) : holdB x t = false := by simp [holdB, h]
theorem hold_b {x : List (List CellD)} {t : TestD} (o : t.op ≤ 6) (h : valueD t.b x = []) : holdB x t = false := by simp [holdB, h, o]
theorem hold_s {x : List (List CellD)} {t : TestD} (h : valueD t.a x ≠ []) (k : t.op ≤ 6 → valueD t.b x ≠ []) : holdB x t = saysB t.op (valueD t.a x) (valueD t.b x) := by
  unfold holdB
  have e1 : (valueD t.a x).isEmpty = false := by cases e : valueD t.a x with
    | nil => exact absurd e h
    | cons => rfl
  have e2 : (decide (t.op ≤ 6) && (valueD t.b x).isEmpty) = false := by
    by_cases o : t.op ≤ 6
    · have := k o
      cases e : valueD t.b x with
      | nil => exact absurd e this
      | cons => simp
    · simp [o]
  rw [e1, e2]; rfl
theorem reg_fine {x : List (List CellD)} (h : Fine2 x) (n : Int) : Fine (regD x n) := by
  unfold regD
  split
  · exact Fine.nil
  · rw [List.getD_eq_getElem?_getD]
    cases e : x[n.toNat]? with
    | none => exact Fine.nil
    | some l =>
      obtain ⟨hn, rfl⟩ := List.getElem?_eq_some_iff.1 e
      exact h _ hn
theorem value_fine {x : List (List CellD)} (h : Fine2 x) {a : CellD} (hs : a.text.size ≤ 9223372036854775807) : Fine (valueD a x) := by
  unfold valueD
  split
  · exact reg_fine h _
  · split
    · exact fine_one (by simp [intC, noText, ByteArray.size])
    · split
      · exact fine_one hs
      · split
        · exact fine_one (by simp [nilC, noText, ByteArray.size])
        · exact Fine.nil
theorem regs_ok {x : List (List CellD)} (h : regsE x = 0) : ∀ l ∈ x, l ≠ [] → (rightE l).1 = 0 := by
  induction x with
  | nil => intro l hl; cases hl
  | cons y ys ih =>
    unfold regsE at h
    split at h
    · rename_i hc; exact absurd h hc.2
    · rename_i hc
      intro l hl hne
      rcases List.mem_cons.1 hl with rfl | hl
      · have : 0 < l.length := List.length_pos_iff.2 hne
        exact Decidable.byContradiction fun e => hc ⟨this, e⟩
      · exact ih h l hl hne
theorem nil_right : (rightE [nilC]).1 = 0 := by
  have : cellE nilC = 0 := by simp [cellE, nilC, noText, ByteArray.size]
  rw [right_single this rfl]
theorem value_right {x : List (List CellD)} {a : CellD} (ha : argB a = true) (h : regsE x = 0) (hne : valueD a x ≠ []) : (rightE (valueD a x)).1 = 0 := by
  by_cases h1 : a.kind = 1
  · rw [valueD1 h1] at hne ⊢
    unfold regD at hne ⊢
    split at hne
    · exact absurd rfl hne
    · rename_i hn
      rw [if_neg hn]
      rw [List.getD_eq_getElem?_getD] at hne ⊢
      cases e : x[a.n.toNat]? with
      | none => rw [e] at hne; exact absurd rfl hne
      | some l =>
        rw [e] at hne
        obtain ⟨hn2, rfl⟩ := List.getElem?_eq_some_iff.1 e
        exact regs_ok h _ (List.getElem_mem hn2) hne
  by_cases h3 : a.kind = 3
  · rw [valueD3 h3, right_single (cell_int _) rfl]
  by_cases h4 : a.kind = 4
  · rw [argB4 h4] at ha
    simp at ha
    rw [valueD4 h4, right_single ha.2 rfl]
  by_cases h5 : a.kind = 5
  · rw [valueD5 h5]; exact nil_right
  · rw [valueD0 h1 h3 h4 h5] at hne; exact absurd rfl hne
theorem arg_reg {a : CellD} (ha : argB a = true) : a.kind = 1 → 0 ≤ a.n := by
  intro h
  rw [argB1 h] at ha
  simp at ha
  exact ha.1
theorem test_parts {t : TestD} (h : testB t = true) : opB t.op = true ∧ argB t.a = true ∧ (t.op ≤ 6 → argB t.b = true) ∧ (6 < t.op → t.b = noArg) := by
  unfold testB at h
  simp only [Bool.and_eq_true] at h
  refine ⟨h.1, h.2.1, fun o => ?_, fun o => ?_⟩
  · have := h.2.2; rwa [if_neg (by omega)] at this
  · have := h.2.2; rw [if_pos o, decide_eq_true_eq] at this; exact this
theorem test_b {t : TestD} (h : testB t = true) : t.b.kind = 1 → 0 ≤ t.b.n := by
  obtain ⟨_, _, h3, h4⟩ := test_parts h
  by_cases o : t.op ≤ 6
  · exact arg_reg (h3 o)
  · rw [h4 (by omega)]
    intro e; cases e
theorem all_bad {x : List (List CellD)} {g : List TestD} {j : Nat} (h : j < g.length) (e : holdB x g[j] = false) : g.all (holdB x) = false := by
  rw [List.all_eq_false]
  exact ⟨_, List.getElem_mem h, by simp [e]⟩
theorem all_good {x : List (List CellD)} {g : List TestD} (h : ∀ j (h : j < g.length), holdB x g[j] = true) : g.all (holdB x) = true := by
  rw [List.all_eq_true]
  intro t ht
  obtain ⟨j, hj, rfl⟩ := List.mem_iff_getElem.1 ht
  exact h j hj
theorem guard_ok {g : List TestD} (h : guardE g = 0) : g.length ≤ 16 ∧ ∀ j (h : j < g.length), testB g[j] = true := by
  unfold guardE at h
  split at h
  · cases h
  · split at h
    · rename_i h1 h2
      exact ⟨by omega, fun j hj => List.all_eq_true.1 h2 _ (List.getElem_mem hj)⟩
    · cases h
set_option maxRecDepth 100000 in
set_option maxHeartbeats 4000000 in
theorem rAll_any (g : List TestD) (x : List (List CellD)) (A B : Option Addr) (c d : Nat) (w : World) (hr : TReads w A g) (hf : FineT g) (hx : Reads2 w B x) (hfx : Fine2 x) (hl : x.length ≤ 1000000000000000) (hg : ∀ j (h : j < g.length), opB (g[j]).op = true) :
    Calls Tryd.prog 110 #[.slice A g.length c, .slice B x.length d] w fun e w' => e = .returned (.bool (g.all (holdB x))) ∧ Below w.heap.size w w' := by
  have hgl := hf.len
  have HR := Lib.hid hr
  have HF := Lib.hid hf
  have HX := Lib.hid hx
  have HFX := Lib.hid hfx
  have HG := Lib.hid hg
  clear hr hf hx hfx hg
  go_enter Tryd.func110, Tryd.ntmps110
  go_wp2_with fail
  go_loopw [5] (fun i wr => ∃ j : Nat, j ≤ g.length ∧ i = .int .i64 j ∧ Below w.heap.size w wr ∧ Hid (∀ k (h : k < g.length), k < j → holdB x g[k] = true)) (fun i wr => g.length - (intOf i).toNat)
  case atStart => exact ⟨0, Nat.zero_le _, rfl, Below.refl _ _, fun k _ h => absurd h (Nat.not_lt_zero k)⟩
  case round =>
    obtain ⟨j, hj, rfl, hB, hH⟩ := hrel
    by_cases hlt : j < g.length
    · obtain ⟨b, o, hA, ht⟩ := HR.out j hlt
      subst hA
      obtain ⟨q0, q1, q2, q3, q4, q5, q6⟩ := ht.below hB
      have hfj := HF.out.text j hlt
      have hop := Lib.hid (HG.out j hlt)
      have hi1 : (j : Int) < (g.length : Int) := by omega
      have hi0 : (0 : Int) ≤ (j : Int) := Int.natCast_nonneg _
      have HBad := Lib.hid (show holdB x g[j] = false → g.all (holdB x) = false from all_bad hlt)
      have HN := Lib.hid (show holdB x g[j] = true → ∀ k (h : k < g.length), k < j + 1 → holdB x g[k] = true from fun e k h h1 => by
        rcases Nat.lt_succ_iff_lt_or_eq.1 h1 with h2 | rfl
        · exact hH.out k h h2
        · exact e)
      generalize g[j] = t at *
      clear ht hH
      go_wp2_with fail
      refine (rvalue_any t.a x B d _ (HX.out.below hB) hl).mono ?_
      rintro e w1 ⟨A1, c1, rfl, hc1, r1, hb1⟩
      have p0 := cell_below hb1 q0
      have p4 := cell_below hb1 q4
      have p5 := cell_below hb1 q5
      have p6 := cell_below hb1 q6
      have hB1 := below_then hB hb1
      have R1 := Lib.hid r1
      clear q0 q1 q2 q3 q4 q5 q6 r1
      go_wp2_with fail
      refine (rvalue_any t.b x B d _ (HX.out.below hB1) hl).mono ?_
      rintro e w2 ⟨A2, c2, rfl, hc2, r2, hb2⟩
      have s0 := cell_below hb2 p0
      have hB2 := below_then hB1 hb2
      have R2 := Lib.hid r2
      have R1' := Lib.hid (R1.out.below hb2)
      clear p0 p4 p5 p6 r2 hb1 hb2 R1
      have f1 := (value_fine HFX.out hfj.1).lim
      have f2 := (value_fine HFX.out hfj.2).lim
      have h_a := Lib.hid (fun h => HBad.out (hold_a (x := x) (t := t) h))
      have h_b := Lib.hid (fun o h => HBad.out (hold_b (x := x) (t := t) o h))
      have h_s := Lib.hid (hold_s (x := x) (t := t))
      generalize valueD t.a x = va at *
      generalize valueD t.b x = vb at *
      cases va with
      | nil =>
        have F := Lib.hid (h_a.out rfl)
        have z : (([] : List CellD).length) = 0 := rfl
        rw [z]
        clear h_a h_b h_s
        go_wp2
        go_ret
        exact ⟨by rw [F.out]; rfl, hB2⟩
      | cons y va =>
        have hz : (((y :: va).length : Int) == 0) = false := beq_eq_false_iff_ne.2 (by simp; omega)
        have hz1 : 0 < (y :: va).length := by simp
        have HS := Lib.hid (fun o => rsays9_any t.op y va vb A1 A2 c1 c2 w2 R1'.out R2.out f1 f2 o)
        by_cases o6 : t.op ≤ 6
        · cases vb with
          | nil =>
            have F := Lib.hid (h_b.out o6 rfl)
            have z : (([] : List CellD).length) = 0 := rfl
            rw [z]
            clear h_a h_b h_s HS
            generalize (y :: va).length = n at *
            go_wp2
            go_ret
            exact ⟨by rw [F.out]; rfl, hB2⟩
          | cons z vb =>
            have hzz : (((z :: vb).length : Int) == 0) = false := beq_eq_false_iff_ne.2 (by simp; omega)
            have hzz1 : 0 < (z :: vb).length := by simp
            have F := Lib.hid (h_s.out (by simp) (fun _ => by simp))
            have HS' := Lib.hid (HS.out hop.out)
            clear h_a h_b h_s HS
            generalize (y :: va).length = n at *
            generalize (z :: vb).length = m at *
            go_wp2_with fail
            refine HS'.out.mono ?_
            rintro e w3 ⟨rfl, hb3⟩
            rw [← F.out]
            have hB3 := below_then hB2 hb3
            cases hk : holdB x t
            · have G := Lib.hid (HBad.out hk)
              clear hk
              go_wp2
              go_ret
              exact ⟨by rw [G.out]; rfl, hB3⟩
            · have G := Lib.hid (HN.out hk)
              clear hk
              go_wp2
              go_roundw
              case rel => exact ⟨j + 1, by omega, by go_num, hB3, G⟩
              case measure => simp [intOf]; omega
        · have F := Lib.hid (h_s.out (by simp) (fun o => absurd o o6))
          have HS' := Lib.hid (HS.out hop.out)
          clear h_a h_b h_s HS
          generalize (y :: va).length = n at *
          generalize hm : vb.length = m at *
          have HM := Lib.hid hm
          clear hm
          go_wp2_with fail
          refine HS'.out.mono ?_
          rintro e w3 ⟨rfl, hb3⟩
          rw [← F.out]
          have hB3 := below_then hB2 hb3
          cases hk : holdB x t
          · have G := Lib.hid (HBad.out hk)
            clear hk
            go_wp2
            go_ret
            exact ⟨by rw [G.out]; rfl, hB3⟩
          · have G := Lib.hid (HN.out hk)
            clear hk
            go_wp2
            go_roundw
            case rel => exact ⟨j + 1, by omega, by go_num, hB3, G⟩
            case measure => simp [intOf]; omega
    · have F := Lib.hid (all_good (x := x) (fun k h => hH.out k h (by omega)))
      clear hH
      go_wp2
      go_ret
      exact ⟨by rw [F.out]; rfl, hB⟩
end Go.Proofs.YtefpolgflimlgaaDoor.Tm
