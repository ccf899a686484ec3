/- Sweep's stands and held. -/
import Derived.Test.YthgnihckeckaiaaDoorCoW
import Derived.Maps.AppendAt
namespace Go.Proofs.YthgnihckeckaiaaDoor.Tm
open Go.RowKit
set_option linter.unusedVariables false
set_option linter.unusedSimpArgs false

theorem stands_any (x : Int) (w : World) (h0 : 0 ≤ x) (h1 : x < 18446744073709551616) : Calls Tryd.prog 127 #[.int .u64 x] w fun e w' => e = .returned (.bool (ptrW x)) ∧ w' = w := by
  have hk := wkind_any x w h0 h1
  by_cases h3 : kdW x = 3
  · have H := Lib.hid (show ptrW x = true by unfold ptrW; rw [h3]; rfl)
    rw [h3] at hk
    clear h3
    go_enter Tryd.func127, Tryd.ntmps127
    go_wp2_with fail
    refine hk.mono ?_
    rintro e w' ⟨rfl, rfl⟩
    go_wp2
    go_ret
    exact ⟨by rw [H.out]; rfl, rfl⟩
  · by_cases h4 : kdW x = 4
    · have H := Lib.hid (show ptrW x = true by unfold ptrW; rw [h4]; rfl)
      rw [h4] at hk
      clear h3 h4
      go_enter Tryd.func127, Tryd.ntmps127
      go_wp2_with fail
      refine hk.mono ?_
      rintro e w' ⟨rfl, rfl⟩
      go_wp2
      go_ret
      exact ⟨by rw [H.out]; rfl, rfl⟩
    · have e3 : (kdW x == 3) = false := beq_eq_false_iff_ne.2 h3
      have e4 : (kdW x == 4) = false := beq_eq_false_iff_ne.2 h4
      have H := Lib.hid (show ptrW x = false by unfold ptrW; rw [e3, e4]; rfl)
      obtain ⟨k, hkk⟩ : ∃ k, kdW x = k := ⟨_, rfl⟩
      rw [hkk] at hk e3 e4
      clear h3 h4 hkk
      go_enter Tryd.func127, Tryd.ntmps127
      go_wp2_with fail
      refine hk.mono ?_
      rintro e w' ⟨rfl, rfl⟩
      go_wp2
      go_ret
      exact ⟨by rw [H.out]; rfl, rfl⟩
set_option maxHeartbeats 2000000 in
theorem sheld_any (w : World) (O : Nat → Prop) (ba room : Nat) (L : List ObjA) (x : Int) (hA : ArAt w O ba room L) (h0 : 0 ≤ x) (h1 : x < 18446744073709551616) :
    Calls Tryd.prog 128 #[.pointer (some ⟨ba, 0, none⟩), .int .u64 x] w fun e w' => ∃ A c, e = .returned (.slice A (partsW L x).length c) ∧ HeldSt w w' (partsW L x) (.slice A (partsW L x).length c) := by
  have hpl := parts_len hA.wf x
  have hw := hA.wf
  obtain ⟨P, hP⟩ : ∃ P, partsW L x = P := ⟨_, rfl⟩
  rw [hP] at hpl ⊢
  have HA := Lib.hid hA
  have HP := Lib.hid hP
  have HW := Lib.hid hw
  obtain ⟨i0, hi, hz0, hz1, hz2⟩ := info_parts word_info
  clear hA hP hw
  go_enter Tryd.func128, Tryd.ntmps128
  go_wp2_with fail
  go_loopw [5, 6] (fun v i wr => ∃ j : Nat, j ≤ P.length ∧ i = .int .i64 (j : Int) ∧ Hid (HeldSt w wr (P.take j) v)) (fun v i wr => P.length - (intOf i).toNat)
  case atStart => exact ⟨0, Nat.zero_le _, rfl, Lib.hid ⟨Below.refl _ _, row_nil _ _ _ _⟩⟩
  case round =>
    obtain ⟨j, hj, rfl, hS⟩ := hrel
    have hlen : (P.take j).length = j := by rw [List.length_take]; omega
    obtain ⟨Av, cv, hv⟩ := row_slice hS.out.row
    rw [hlen] at hv
    subst hv
    have hszr := hS.out.base.size
    have HL := Lib.hid hlen
    clear hlen
    by_cases hlt : j < P.length
    · obtain ⟨a1, a2⟩ := part_at HW.out HP.out hlt
      have hap := apart_any wr O ba room L x (j : Int) h0 h1 (HA.out.below hS.out.base)
      have HTK := Lib.hid (List.take_succ_eq_append_getElem hlt)
      obtain ⟨p, hp⟩ : ∃ p, P[j] = p := ⟨_, rfl⟩
      rw [a1, a2, hp] at hap
      rw [hp] at HTK
      have HROW := Lib.hid (show wr.ownsRow w.heap.size 27 1 (.slice Av j cv) j (encW (P.take j)) by
        have := hS.out.row
        rw [HL.out] at this
        exact this)
      clear a1 a2 hp
      go_wp2_with fail
      refine hap.mono ?_
      rintro e w2 ⟨rfl, hb2⟩
      have HROW2 := Lib.hid (row_below HROW.out hb2)
      have HB2 := Lib.hid hb2
      have hs2 := hb2.size
      clear hap hb2
      go_wp2_with (at_builtin
                   refine wpList_append_own_at _ rfl (.tmp 21) (.tmp 23) _ rfl w.heap.size 27 i0 (.int .u64 0) 1 8 Tryd.underlying31 hi hz0 hz1 hz2 rfl (by decide) (.slice Av j cv) j (encW (P.take j)) rfl (HROW2.out.alloc _) ⟨w2.heap.size, 0, none⟩ 1 1 [.int .u64 p] rfl rfl (cell_one_new _ _ _) (by simp [Value.oneCell']) (by unfold maxLen; omega) (by omega) (by rw [World.size_alloc]; omega) ?_
                   intro v5 w5 hown5 hgrow5 hnil5 hat5)
      have HS5 := Lib.hid (show HeldSt w w5 (P.take (j + 1)) v5 from ⟨below_grown (below_alloc' (below_then hS.out.base HB2.out) _) hgrow5 (row_base HROW.out), by
        rw [HTK.out, List.length_append, List.length_singleton, HL.out, encW_snoc]
        exact hown5⟩)
      go_roundw
      case rel => exact ⟨j + 1, hlt, by go_num, HS5⟩
      case measure => simp [intOf]; omega
    · obtain rfl : j = P.length := by omega
      have hst := hS.out
      rw [List.take_length] at hst
      have HST := Lib.hid hst
      clear hS hst hlt hj
      have hpe := part_end (L := L) (x := x) HP.out (Nat.le_refl _)
      have hap := apart_any wr O ba room L x (P.length : Int) h0 h1 (HA.out.below HST.out.base)
      obtain ⟨pe, hpe2⟩ : ∃ pe, partE (seenA L x) (P.length : Int) = pe := ⟨_, rfl⟩
      obtain ⟨px, hpx⟩ : ∃ px, partX (seenA L x) (P.length : Int) = px := ⟨_, rfl⟩
      rw [hpe2] at hap hpe
      rw [hpx] at hap
      have eb : (pe != 0) = true := by rw [bne_iff_ne]; exact hpe
      clear hpe hpe2 hpx
      go_wp2_with fail
      refine hap.mono ?_
      rintro e w2 ⟨rfl, hb2⟩
      go_wp2
      go_ret
      exact ⟨Av, cv, rfl, below_then HST.out.base hb2, row_below HST.out.row hb2⟩
end Go.Proofs.YthgnihckeckaiaaDoor.Tm
