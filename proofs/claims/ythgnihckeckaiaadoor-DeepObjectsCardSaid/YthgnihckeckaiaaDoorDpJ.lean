/- The law's held, has, objects, costs. -/
import Derived.Test.YthgnihckeckaiaaDoorCoW
import Derived.Test.YthgnihckeckaiaaDoorDpR
import Derived.Test.YthgnihckeckaiaaDoorDpW
import Derived.Maps.AppendAt
namespace Go.Proofs.YthgnihckeckaiaaDoor.Tm
open Go.RowKit
set_option linter.unusedVariables false
set_option linter.unusedSimpArgs false

theorem has_any (w : World) (l : List Int) (A : Option Addr) (cap : Nat) (x : Int) (hr : WReads w A l) (hl : l.length ≤ 1000000000000) :
    Calls Tryd.prog 80 #[.slice A l.length cap, .int .u64 x] w fun e w' => e = .returned (.bool (decide (x ∈ l))) ∧ Below w.heap.size w w' := by
  have HR := Lib.hid hr
  clear hr
  go_enter Tryd.func80, Tryd.ntmps80
  go_wp2_with fail
  go_loopw [9] (fun i wr => ∃ j : Nat, j ≤ l.length ∧ i = .int .i64 (j : Int) ∧ Hid (Below w.heap.size w wr) ∧ Hid (∀ q (h : q < l.length), q < j → l[q] ≠ x)) (fun i wr => l.length - (intOf i).toNat)
  case atStart => exact ⟨0, Nat.zero_le _, rfl, Lib.hid (Below.refl _ _), Lib.hid (fun q _ h => absurd h (Nat.not_lt_zero q))⟩
  case round =>
    obtain ⟨j, hj, rfl, hB, hF⟩ := hrel
    by_cases hlt : j < l.length
    · obtain ⟨g, o, rfl, q0⟩ := (HR.out.below hB.out) j hlt
      have hj1 : (j : Int) < (l.length : Int) := by omega
      have hj0 : (0 : Int) ≤ (j : Int) := Int.natCast_nonneg _
      have hbl : decide ((j : Int) < (l.length : Int)) = true := decide_eq_true hj1
      have HM := Lib.hid (List.getElem_mem hlt)
      obtain ⟨y, hy⟩ : ∃ y, l[j] = y := ⟨_, rfl⟩
      rw [hy] at q0 HM
      by_cases hyx : y = x
      · have hb : (y == x) = true := by rw [hyx]; simp
        have HE := Lib.hid (show decide (x ∈ l) = true from decide_eq_true (by rw [← hyx]; exact HM.out))
        clear hF hy hyx
        go_wp2
        go_ret
        rw [HE.out]
        exact ⟨rfl, hB.out⟩
      · have hb : (y == x) = false := beq_eq_false_iff_ne.2 hyx
        have HNF := Lib.hid (show ∀ q (h : q < l.length), q < j + 1 → l[q] ≠ x from fun q hq hqj => by
          by_cases e : q = j
          · subst e
            rw [hy]
            exact hyx
          · exact hF.out q hq (by omega))
        clear hF hy hyx
        go_wp2
        go_roundw
        case rel => exact ⟨j + 1, by omega, by go_num, hB, HNF⟩
        case measure => simp [intOf]; omega
    · have hbl : decide ((j : Int) < (l.length : Int)) = false := decide_eq_false (by omega)
      have HE := Lib.hid (show decide (x ∈ l) = false from decide_eq_false (fun hm => by
        obtain ⟨q, hq, e⟩ := List.mem_iff_getElem.1 hm
        exact hF.out q hq (by omega) e))
      clear hF
      go_wp2
      go_ret
      rw [HE.out]
      exact ⟨rfl, hB.out⟩
set_option maxHeartbeats 2000000 in
theorem dheld_any (w : World) (O : Nat → Prop) (ba room : Nat) (L : List ObjA) (x : Int) (hA : ArAt w O ba room L) (h0 : 0 ≤ x) (h1 : x < 18446744073709551616) :
    Calls Tryd.prog 81 #[.pointer (some ⟨ba, 0, none⟩), .int .u64 x] w fun e w' => ∃ A c, e = .returned (.slice A (partsW L x).length c) ∧ HeldSt w w' (partsW L x) (.slice A (partsW L x).length c) := by
  have hpl := parts_len hA.wf x
  have hw := hA.wf
  obtain ⟨P, hP⟩ : ∃ P, partsW L x = P := ⟨_, rfl⟩
  rw [hP] at hpl ⊢
  have HA := Lib.hid hA
  have HP := Lib.hid hP
  have HW := Lib.hid hw
  obtain ⟨i0, hi, hz0, hz1, hz2⟩ := info_parts word_info
  clear hA hP hw
  go_enter Tryd.func81, Tryd.ntmps81
  go_wp2_with fail
  go_loopw [5, 6] (fun v i wr => ∃ j : Nat, j ≤ P.length ∧ i = .int .i64 (j : Int) ∧ Hid (HeldSt w wr (P.take j) v)) (fun v i wr => P.length - (intOf i).toNat)
  case atStart => exact ⟨0, Nat.zero_le _, rfl, Lib.hid ⟨Below.refl _ _, row_nil _ _ _ _⟩⟩
  case round =>
    obtain ⟨j, hj, rfl, hS⟩ := hrel
    have hlen : (P.take j).length = j := by rw [List.length_take]; omega
    obtain ⟨Av, cv, hv⟩ := row_slice hS.out.row
    rw [hlen] at hv
    subst hv
    have hszr := hS.out.base.size
    have HL := Lib.hid hlen
    clear hlen
    by_cases hlt : j < P.length
    · obtain ⟨a1, a2⟩ := part_at HW.out HP.out hlt
      have hap := apart_any wr O ba room L x (j : Int) h0 h1 (HA.out.below hS.out.base)
      have HTK := Lib.hid (List.take_succ_eq_append_getElem hlt)
      obtain ⟨p, hp⟩ : ∃ p, P[j] = p := ⟨_, rfl⟩
      rw [a1, a2, hp] at hap
      rw [hp] at HTK
      have hb : decide ((j : Int) < 255) = true := decide_eq_true (by omega)
      have HROW := Lib.hid (show wr.ownsRow w.heap.size 27 1 (.slice Av j cv) j (encW (P.take j)) by
        have := hS.out.row
        rw [HL.out] at this
        exact this)
      clear a1 a2 hp
      go_wp2_with fail
      refine hap.mono ?_
      rintro e w2 ⟨rfl, hb2⟩
      have HROW2 := Lib.hid (row_below HROW.out hb2)
      have HB2 := Lib.hid hb2
      have hs2 := hb2.size
      clear hap hb2
      go_wp2_with (at_builtin
                   refine wpList_append_own_at _ rfl (.tmp 22) (.tmp 24) _ rfl w.heap.size 27 i0 (.int .u64 0) 1 8 Tryd.underlying31 hi hz0 hz1 hz2 rfl (by decide) (.slice Av j cv) j (encW (P.take j)) rfl (HROW2.out.alloc _) ⟨w2.heap.size, 0, none⟩ 1 1 [.int .u64 p] rfl rfl (cell_one_new _ _ _) (by simp [Value.oneCell']) (by unfold maxLen; omega) (by omega) (by rw [World.size_alloc]; omega) ?_
                   intro v5 w5 hown5 hgrow5 hnil5 hat5)
      have HS5 := Lib.hid (show HeldSt w w5 (P.take (j + 1)) v5 from ⟨below_grown (below_alloc' (below_then hS.out.base HB2.out) _) hgrow5 (row_base HROW.out), by
        rw [HTK.out, List.length_append, List.length_singleton, HL.out, encW_snoc]
        exact hown5⟩)
      go_roundw
      case rel => exact ⟨j + 1, hlt, by go_num, HS5⟩
      case measure => simp [intOf]; omega
    · obtain rfl : j = P.length := by omega
      have hst := hS.out
      rw [List.take_length] at hst
      have HST := Lib.hid hst
      clear hS hst hlt hj
      by_cases h255 : P.length < 255
      · have hb : decide ((P.length : Int) < 255) = true := decide_eq_true (by omega)
        have hpe := part_end (L := L) (x := x) HP.out (Nat.le_refl _)
        have hap := apart_any wr O ba room L x (P.length : Int) h0 h1 (HA.out.below HST.out.base)
        obtain ⟨pe, hpe2⟩ : ∃ pe, partE (seenA L x) (P.length : Int) = pe := ⟨_, rfl⟩
        obtain ⟨px, hpx⟩ : ∃ px, partX (seenA L x) (P.length : Int) = px := ⟨_, rfl⟩
        rw [hpe2] at hap hpe
        rw [hpx] at hap
        have eb : (pe != 0) = true := by rw [bne_iff_ne]; exact hpe
        clear hpe hpe2 hpx
        go_wp2_with fail
        refine hap.mono ?_
        rintro e w2 ⟨rfl, hb2⟩
        go_wp2
        go_ret
        exact ⟨Av, cv, rfl, below_then HST.out.base hb2, row_below HST.out.row hb2⟩
      · have hb : decide ((P.length : Int) < 255) = false := decide_eq_false (by omega)
        go_wp2
        go_ret
        exact ⟨Av, cv, rfl, HST.out⟩
end Go.Proofs.YthgnihckeckaiaaDoor.Tm
