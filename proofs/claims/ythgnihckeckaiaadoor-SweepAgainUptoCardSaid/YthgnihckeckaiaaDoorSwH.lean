/- Sweep's law: holds, place. -/
import Derived.Test.YthgnihckeckaiaaDoorSwK
import Derived.Deep.DeepCutAuto
import Derived.Maps.AppendAt
namespace Go.Proofs.YthgnihckeckaiaaDoor.Tm
open Go.RowKit Go.Shelf
set_option linter.unusedVariables false
set_option linter.unusedSimpArgs false

theorem place_any (w : World) (l : List Int) (A : Option Addr) (cap : Nat) (x : Int) (hr : WReads w A l) (hl : l.length ≤ 1000000000000) :
    Calls Tryd.prog 98 #[.slice A l.length cap, .int .u64 x] w fun e w' => ∃ n : Int, e = .returned (.int .i64 n) ∧ decide (0 ≤ n) = decide (x ∈ l) ∧ -1 ≤ n ∧ n < l.length ∧ Below w.heap.size w w' := by
  have HR := Lib.hid hr
  clear hr
  go_enter Tryd.func98, Tryd.ntmps98
  go_wp2_with fail
  go_loopw [5] (fun i wr => ∃ j : Nat, j ≤ l.length ∧ i = .int .i64 (j : Int) ∧ Hid (Below w.heap.size w wr) ∧ Hid (∀ q (h : q < l.length), q < j → l[q] ≠ x)) (fun i wr => l.length - (intOf i).toNat)
  case atStart => exact ⟨0, Nat.zero_le _, rfl, Lib.hid (Below.refl _ _), Lib.hid (fun q _ h => absurd h (Nat.not_lt_zero q))⟩
  case round =>
    obtain ⟨j, hj, rfl, hB, hF⟩ := hrel
    by_cases hlt : j < l.length
    · obtain ⟨g, o, rfl, q0⟩ := (HR.out.below hB.out) j hlt
      have hj1 : (j : Int) < (l.length : Int) := by omega
      have hj0 : (0 : Int) ≤ (j : Int) := Int.natCast_nonneg _
      have hbl : decide ((j : Int) < (l.length : Int)) = true := decide_eq_true hj1
      have HM := Lib.hid (List.getElem_mem hlt)
      obtain ⟨y, hy⟩ : ∃ y, l[j] = y := ⟨_, rfl⟩
      rw [hy] at q0 HM
      by_cases hyx : y = x
      · have hb : (y == x) = true := by rw [hyx]; simp
        have HE := Lib.hid (show decide (x ∈ l) = true from decide_eq_true (by rw [← hyx]; exact HM.out))
        clear hF hy hyx
        go_wp2
        go_ret
        exact ⟨(j : Int), rfl, by rw [HE.out]; exact decide_eq_true hj0, by omega, hj1, hB.out⟩
      · have hb : (y == x) = false := beq_eq_false_iff_ne.2 hyx
        have HNF := Lib.hid (show ∀ q (h : q < l.length), q < j + 1 → l[q] ≠ x from fun q hq hqj => by
          by_cases e : q = j
          · subst e
            rw [hy]
            exact hyx
          · exact hF.out q hq (by omega))
        clear hF hy hyx
        go_wp2
        go_roundw
        case rel => exact ⟨j + 1, by omega, by go_num, hB, HNF⟩
        case measure => simp [intOf]; omega
    · have hbl : decide ((j : Int) < (l.length : Int)) = false := decide_eq_false (by omega)
      have HE := Lib.hid (show decide (x ∈ l) = false from decide_eq_false (fun hm => by
        obtain ⟨q, hq, e⟩ := List.mem_iff_getElem.1 hm
        exact hF.out q hq (by omega) e))
      clear hF
      go_wp2
      go_ret
      exact ⟨-1, rfl, by rw [HE.out]; rfl, by omega, by omega, hB.out⟩
set_option maxRecDepth 10000 in
set_option maxHeartbeats 4000000 in
theorem holds_any (w : World) (O : Nat → Prop) (ba room : Nat) (L : List ObjA) (x : Int) (hA : ArAt w O ba room L) (h0 : 0 ≤ x) (h1 : x < 18446744073709551616) :
    Calls Tryd.prog 99 #[.pointer (some ⟨ba, 0, none⟩), .int .u64 x] w fun e w' => ∃ A c, e = .returned (.slice A (partsW L x).length c) ∧ HeldSt w w' (partsW L x) (.slice A (partsW L x).length c) := by
  have hpl := parts_len hA.wf x
  have hce := acell_any w O ba room L x h0 h1 hA
  have hcase : (errS (seenA L x) = 31 ∧ (partsW L x).length = 0) ∨ (errS (seenA L x) = 0 ∧ ((cellS (seenA L x)).kind = 5 ∧ (cellS (seenA L x)).n = ((partsW L x).length : Int) ∨ (cellS (seenA L x)).kind = 7 ∧ (partsW L x).length = 2 ∨ (cellS (seenA L x)).kind ≠ 5 ∧ (cellS (seenA L x)).kind ≠ 7 ∧ (partsW L x).length = 0)) := by
    unfold partsW
    cases hs : seenA L x with
    | none => exact .inl ⟨rfl, rfl⟩
    | some r =>
      obtain ⟨c, ps⟩ := r
      obtain ⟨s5, s7, s0⟩ := seen_shape hA.wf hs
      refine .inr ⟨rfl, ?_⟩
      by_cases k5 : c.kind = 5
      · exact .inl ⟨k5, s5 k5⟩
      · by_cases k7 : c.kind = 7
        · exact .inr (.inl ⟨k7, s7 k7⟩)
        · exact .inr (.inr ⟨k5, k7, s0 k5 k7⟩)
  have hw := hA.wf
  obtain ⟨P, hP⟩ : ∃ P, partsW L x = P := ⟨_, rfl⟩
  obtain ⟨c, hc⟩ : ∃ c, cellS (seenA L x) = c := ⟨_, rfl⟩
  obtain ⟨er, her⟩ : ∃ e, errS (seenA L x) = e := ⟨_, rfl⟩
  rw [hP] at hpl hcase ⊢
  rw [hc, her] at hcase hce
  simp only [CellD.agg] at hce
  have HA := Lib.hid hA
  have HP := Lib.hid hP
  have HW := Lib.hid hw
  have HC := Lib.hid hcase
  obtain ⟨i0, hi, hz0, hz1, hz2⟩ := info_parts word_info
  clear hA hP hw hc her hcase
  go_enter Tryd.func99, Tryd.ntmps99
  go_wp2_with fail
  refine hce.mono ?_
  rintro e w2 ⟨rfl, hb2⟩
  have HB2 := Lib.hid (below_alloc' hb2 (.cells #[.int .i64 c.kind, .int .i64 c.n, .string c.text] 40))
  have BC : BlkIs (w2.alloc (.cells #[.int .i64 c.kind, .int .i64 c.n, .string c.text] 40)) w2.heap.size #[.int .i64 c.kind, .int .i64 c.n, .string c.text] 40 := heap_new w2 _
  have c0 := BC.cell 0 (v := .int .i64 c.kind) rfl
  have c1 := BC.cell 1 (v := .int .i64 c.n) rfl
  clear hce hb2
  obtain ⟨w3, hw3⟩ : ∃ V, w2.alloc (.cells #[.int .i64 c.kind, .int .i64 c.n, .string c.text] 40) = V := ⟨_, rfl⟩
  have HW3 := Lib.hid hw3
  rw [hw3] at c0 c1 BC HB2
  have HBC := Lib.hid BC
  clear hw3 BC
  rcases HC.out with ⟨he, hn⟩ | ⟨he, ⟨k5, kn⟩ | ⟨k7, kn⟩ | ⟨k5, k7, kn⟩⟩
  · -- no word
    have HN := Lib.hid hn
    subst he
    have eb : ((31 : Int) == 0) = false := rfl
    clear hn
    go_wp2_with fail
    go_loopw [8, 9] (fun v i wr => ∃ j : Nat, j ≤ P.length ∧ i = .int .i64 (j : Int) ∧ Hid (HeldSt w wr (P.take j) v)) (fun v i wr => P.length - (intOf i).toNat)
    case atStart => exact ⟨0, Nat.zero_le _, rfl, Lib.hid ⟨by first | exact HB2.out | (rw [HW3.out]; exact HB2.out), row_nil _ _ _ _⟩⟩
    case round =>
      obtain ⟨j, hj, rfl, hS⟩ := hrel
      have hlen : (P.take j).length = j := by rw [List.length_take]; omega
      obtain ⟨Av, cv, hv⟩ := row_slice hS.out.row
      rw [hlen] at hv
      subst hv
      have hszr := hS.out.base.size
      have HL := Lib.hid hlen
      clear hlen
      by_cases hlt : j < P.length
      · obtain ⟨a1, a2⟩ := part_at HW.out HP.out hlt
        have hap := apart_any wr O ba room L x (j : Int) h0 h1 (HA.out.below hS.out.base)
        have HTK := Lib.hid (List.take_succ_eq_append_getElem hlt)
        obtain ⟨p, hp⟩ : ∃ p, P[j] = p := ⟨_, rfl⟩
        rw [a1, a2, hp] at hap
        rw [hp] at HTK
        have hj0 : (0 : Int) ≤ (j : Int) := Int.natCast_nonneg _
        have hb : decide ((j : Int) < 0) = true := decide_eq_true (by have := HN.out; omega)
        have hb3 : decide ((j : Int) < 300) = true := decide_eq_true (by omega)
        have HROW := Lib.hid (show wr.ownsRow w.heap.size 27 1 (.slice Av j cv) j (encW (P.take j)) by
          have := hS.out.row
          rw [HL.out] at this
          exact this)
        clear a1 a2 hp
        go_wp2_with fail
        refine hap.mono ?_
        rintro e w5 ⟨rfl, hb5⟩
        have HROW2 := Lib.hid (row_below HROW.out hb5)
        have HB5 := Lib.hid hb5
        have hs5 := hb5.size
        clear hap hb5
        go_wp2_with (at_builtin
                     refine wpList_append_own_at _ rfl (.tmp 53) (.tmp 55) _ rfl w.heap.size 27 i0 (.int .u64 0) 1 8 Tryd.underlying31 hi hz0 hz1 hz2 rfl (by decide) (.slice Av j cv) j (encW (P.take j)) rfl (HROW2.out.alloc _) ⟨w5.heap.size, 0, none⟩ 1 1 [.int .u64 p] rfl rfl (cell_one_new _ _ _) (by simp [Value.oneCell']) (by unfold maxLen; omega) (by omega) (by rw [World.size_alloc]; omega) ?_
                     intro v6 w6 hown6 hgrow6 hnil6 hat6)
        have HS6 := Lib.hid (show HeldSt w w6 (P.take (j + 1)) v6 from ⟨below_grown (below_alloc' (below_then hS.out.base HB5.out) _) hgrow6 (row_base HROW.out), by
          rw [HTK.out, List.length_append, List.length_singleton, HL.out, encW_snoc]
          exact hown6⟩)
        go_roundw
        case rel => exact ⟨j + 1, hlt, by go_num, HS6⟩
        case measure => simp [intOf]; omega
      · obtain rfl : j = P.length := by omega
        have hst := hS.out
        rw [List.take_length] at hst
        have HST := Lib.hid hst
        have hb : decide ((P.length : Int) < 0) = false := decide_eq_false (by have := HN.out; omega)
        have hb2 : ¬ (P.length : Int) < 0 := by have := HN.out; omega
        clear hS hst hlt hj
        go_wp2
        go_ret
        exact ⟨Av, cv, rfl, HST.out⟩
  · -- a tuple
    have HN := Lib.hid kn
    subst he
    have e5 : (c.kind == 5) = true := by rw [k5]; rfl
    have e7 : (c.kind == 7) = false := by rw [k5]; rfl
    clear k5 kn
    go_wp2_with fail
    go_loopw [8, 9] (fun v i wr => ∃ j : Nat, j ≤ P.length ∧ i = .int .i64 (j : Int) ∧ Hid (HeldSt w wr (P.take j) v)) (fun v i wr => P.length - (intOf i).toNat)
    case atStart => exact ⟨0, Nat.zero_le _, rfl, Lib.hid ⟨by first | exact HB2.out | (rw [HW3.out]; exact HB2.out), row_nil _ _ _ _⟩⟩
    case round =>
      obtain ⟨j, hj, rfl, hS⟩ := hrel
      have hlen : (P.take j).length = j := by rw [List.length_take]; omega
      obtain ⟨Av, cv, hv⟩ := row_slice hS.out.row
      rw [hlen] at hv
      subst hv
      have hszr := hS.out.base.size
      have HL := Lib.hid hlen
      clear hlen
      by_cases hlt : j < P.length
      · obtain ⟨a1, a2⟩ := part_at HW.out HP.out hlt
        have hap := apart_any wr O ba room L x (j : Int) h0 h1 (HA.out.below hS.out.base)
        have HTK := Lib.hid (List.take_succ_eq_append_getElem hlt)
        obtain ⟨p, hp⟩ : ∃ p, P[j] = p := ⟨_, rfl⟩
        rw [a1, a2, hp] at hap
        rw [hp] at HTK
        have hj0 : (0 : Int) ≤ (j : Int) := Int.natCast_nonneg _
        have hb : decide ((j : Int) < c.n) = true := decide_eq_true (by have := HN.out; omega)
        have hb3 : decide ((j : Int) < 300) = true := decide_eq_true (by omega)
        have HROW := Lib.hid (show wr.ownsRow w.heap.size 27 1 (.slice Av j cv) j (encW (P.take j)) by
          have := hS.out.row
          rw [HL.out] at this
          exact this)
        clear a1 a2 hp
        go_wp2_with fail
        refine hap.mono ?_
        rintro e w5 ⟨rfl, hb5⟩
        have HROW2 := Lib.hid (row_below HROW.out hb5)
        have HB5 := Lib.hid hb5
        have hs5 := hb5.size
        clear hap hb5
        go_wp2_with (at_builtin
                     refine wpList_append_own_at _ rfl (.tmp 53) (.tmp 55) _ rfl w.heap.size 27 i0 (.int .u64 0) 1 8 Tryd.underlying31 hi hz0 hz1 hz2 rfl (by decide) (.slice Av j cv) j (encW (P.take j)) rfl (HROW2.out.alloc _) ⟨w5.heap.size, 0, none⟩ 1 1 [.int .u64 p] rfl rfl (cell_one_new _ _ _) (by simp [Value.oneCell']) (by unfold maxLen; omega) (by omega) (by rw [World.size_alloc]; omega) ?_
                     intro v6 w6 hown6 hgrow6 hnil6 hat6)
        have HS6 := Lib.hid (show HeldSt w w6 (P.take (j + 1)) v6 from ⟨below_grown (below_alloc' (below_then hS.out.base HB5.out) _) hgrow6 (row_base HROW.out), by
          rw [HTK.out, List.length_append, List.length_singleton, HL.out, encW_snoc]
          exact hown6⟩)
        go_roundw
        case rel => exact ⟨j + 1, hlt, by go_num, HS6⟩
        case measure => simp [intOf]; omega
      · obtain rfl : j = P.length := by omega
        have hst := hS.out
        rw [List.take_length] at hst
        have HST := Lib.hid hst
        have hb : decide ((P.length : Int) < c.n) = false := decide_eq_false (by have := HN.out; omega)
        have hb2 : ¬ (P.length : Int) < c.n := by have := HN.out; omega
        clear hS hst hlt hj
        go_wp2
        go_ret
        exact ⟨Av, cv, rfl, HST.out⟩
  · -- a cons
    have HN := Lib.hid kn
    subst he
    have e5 : (c.kind == 5) = false := by rw [k7]; rfl
    have e7 : (c.kind == 7) = true := by rw [k7]; rfl
    clear k7 kn
    go_wp2_with fail
    go_loopw [8, 9] (fun v i wr => ∃ j : Nat, j ≤ P.length ∧ i = .int .i64 (j : Int) ∧ Hid (HeldSt w wr (P.take j) v)) (fun v i wr => P.length - (intOf i).toNat)
    case atStart => exact ⟨0, Nat.zero_le _, rfl, Lib.hid ⟨by first | exact HB2.out | (rw [HW3.out]; exact HB2.out), row_nil _ _ _ _⟩⟩
    case round =>
      obtain ⟨j, hj, rfl, hS⟩ := hrel
      have hlen : (P.take j).length = j := by rw [List.length_take]; omega
      obtain ⟨Av, cv, hv⟩ := row_slice hS.out.row
      rw [hlen] at hv
      subst hv
      have hszr := hS.out.base.size
      have HL := Lib.hid hlen
      clear hlen
      by_cases hlt : j < P.length
      · obtain ⟨a1, a2⟩ := part_at HW.out HP.out hlt
        have hap := apart_any wr O ba room L x (j : Int) h0 h1 (HA.out.below hS.out.base)
        have HTK := Lib.hid (List.take_succ_eq_append_getElem hlt)
        obtain ⟨p, hp⟩ : ∃ p, P[j] = p := ⟨_, rfl⟩
        rw [a1, a2, hp] at hap
        rw [hp] at HTK
        have hj0 : (0 : Int) ≤ (j : Int) := Int.natCast_nonneg _
        have hb : decide ((j : Int) < 2) = true := decide_eq_true (by have := HN.out; omega)
        have hb3 : decide ((j : Int) < 300) = true := decide_eq_true (by omega)
        have HROW := Lib.hid (show wr.ownsRow w.heap.size 27 1 (.slice Av j cv) j (encW (P.take j)) by
          have := hS.out.row
          rw [HL.out] at this
          exact this)
        clear a1 a2 hp
        go_wp2_with fail
        refine hap.mono ?_
        rintro e w5 ⟨rfl, hb5⟩
        have HROW2 := Lib.hid (row_below HROW.out hb5)
        have HB5 := Lib.hid hb5
        have hs5 := hb5.size
        clear hap hb5
        go_wp2_with (at_builtin
                     refine wpList_append_own_at _ rfl (.tmp 53) (.tmp 55) _ rfl w.heap.size 27 i0 (.int .u64 0) 1 8 Tryd.underlying31 hi hz0 hz1 hz2 rfl (by decide) (.slice Av j cv) j (encW (P.take j)) rfl (HROW2.out.alloc _) ⟨w5.heap.size, 0, none⟩ 1 1 [.int .u64 p] rfl rfl (cell_one_new _ _ _) (by simp [Value.oneCell']) (by unfold maxLen; omega) (by omega) (by rw [World.size_alloc]; omega) ?_
                     intro v6 w6 hown6 hgrow6 hnil6 hat6)
        have HS6 := Lib.hid (show HeldSt w w6 (P.take (j + 1)) v6 from ⟨below_grown (below_alloc' (below_then hS.out.base HB5.out) _) hgrow6 (row_base HROW.out), by
          rw [HTK.out, List.length_append, List.length_singleton, HL.out, encW_snoc]
          exact hown6⟩)
        go_roundw
        case rel => exact ⟨j + 1, hlt, by go_num, HS6⟩
        case measure => simp [intOf]; omega
      · obtain rfl : j = P.length := by omega
        have hst := hS.out
        rw [List.take_length] at hst
        have HST := Lib.hid hst
        have hb : decide ((P.length : Int) < 2) = false := decide_eq_false (by have := HN.out; omega)
        have hb2 : ¬ (P.length : Int) < 2 := by have := HN.out; omega
        clear hS hst hlt hj
        go_wp2
        go_ret
        exact ⟨Av, cv, rfl, HST.out⟩
  · -- a leaf
    have HN := Lib.hid kn
    subst he
    have e5 : (c.kind == 5) = false := beq_eq_false_iff_ne.2 k5
    have e7 : (c.kind == 7) = false := beq_eq_false_iff_ne.2 k7
    clear k5 k7 kn
    go_wp2_with fail
    go_loopw [8, 9] (fun v i wr => ∃ j : Nat, j ≤ P.length ∧ i = .int .i64 (j : Int) ∧ Hid (HeldSt w wr (P.take j) v)) (fun v i wr => P.length - (intOf i).toNat)
    case atStart => exact ⟨0, Nat.zero_le _, rfl, Lib.hid ⟨by first | exact HB2.out | (rw [HW3.out]; exact HB2.out), row_nil _ _ _ _⟩⟩
    case round =>
      obtain ⟨j, hj, rfl, hS⟩ := hrel
      have hlen : (P.take j).length = j := by rw [List.length_take]; omega
      obtain ⟨Av, cv, hv⟩ := row_slice hS.out.row
      rw [hlen] at hv
      subst hv
      have hszr := hS.out.base.size
      have HL := Lib.hid hlen
      clear hlen
      by_cases hlt : j < P.length
      · obtain ⟨a1, a2⟩ := part_at HW.out HP.out hlt
        have hap := apart_any wr O ba room L x (j : Int) h0 h1 (HA.out.below hS.out.base)
        have HTK := Lib.hid (List.take_succ_eq_append_getElem hlt)
        obtain ⟨p, hp⟩ : ∃ p, P[j] = p := ⟨_, rfl⟩
        rw [a1, a2, hp] at hap
        rw [hp] at HTK
        have hj0 : (0 : Int) ≤ (j : Int) := Int.natCast_nonneg _
        have hb : decide ((j : Int) < 0) = true := decide_eq_true (by have := HN.out; omega)
        have hb3 : decide ((j : Int) < 300) = true := decide_eq_true (by omega)
        have HROW := Lib.hid (show wr.ownsRow w.heap.size 27 1 (.slice Av j cv) j (encW (P.take j)) by
          have := hS.out.row
          rw [HL.out] at this
          exact this)
        clear a1 a2 hp
        go_wp2_with fail
        refine hap.mono ?_
        rintro e w5 ⟨rfl, hb5⟩
        have HROW2 := Lib.hid (row_below HROW.out hb5)
        have HB5 := Lib.hid hb5
        have hs5 := hb5.size
        clear hap hb5
        go_wp2_with (at_builtin
                     refine wpList_append_own_at _ rfl (.tmp 53) (.tmp 55) _ rfl w.heap.size 27 i0 (.int .u64 0) 1 8 Tryd.underlying31 hi hz0 hz1 hz2 rfl (by decide) (.slice Av j cv) j (encW (P.take j)) rfl (HROW2.out.alloc _) ⟨w5.heap.size, 0, none⟩ 1 1 [.int .u64 p] rfl rfl (cell_one_new _ _ _) (by simp [Value.oneCell']) (by unfold maxLen; omega) (by omega) (by rw [World.size_alloc]; omega) ?_
                     intro v6 w6 hown6 hgrow6 hnil6 hat6)
        have HS6 := Lib.hid (show HeldSt w w6 (P.take (j + 1)) v6 from ⟨below_grown (below_alloc' (below_then hS.out.base HB5.out) _) hgrow6 (row_base HROW.out), by
          rw [HTK.out, List.length_append, List.length_singleton, HL.out, encW_snoc]
          exact hown6⟩)
        go_roundw
        case rel => exact ⟨j + 1, hlt, by go_num, HS6⟩
        case measure => simp [intOf]; omega
      · obtain rfl : j = P.length := by omega
        have hst := hS.out
        rw [List.take_length] at hst
        have HST := Lib.hid hst
        have hb : decide ((P.length : Int) < 0) = false := decide_eq_false (by have := HN.out; omega)
        have hb2 : ¬ (P.length : Int) < 0 := by have := HN.out; omega
        clear hS hst hlt hj
        go_wp2
        go_ret
        exact ⟨Av, cv, rfl, HST.out⟩
end Go.Proofs.YthgnihckeckaiaaDoor.Tm
