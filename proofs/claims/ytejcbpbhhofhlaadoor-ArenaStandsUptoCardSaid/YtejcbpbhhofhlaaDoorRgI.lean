/- Layer 3's law: value, means, chosen, apart; which object a word names. -/
import Derived.Test.YtejcbpbhhofhlaaDoorArB
import Derived.Test.YtejcbpbhhofhlaaDoorRgA
namespace Go.Proofs.YtejcbpbhhofhlaaDoor.Tm
open Go.RowKit
set_option linter.unusedVariables false
set_option linter.unusedSimpArgs false

theorem kd_range (x : Int) : kdW x = 0 ∨ kdW x = 1 ∨ kdW x = 2 ∨ kdW x = 3 ∨ kdW x = 4 ∨ kdW x = 5 := by
  unfold kdW
  repeat' split
  all_goals simp
theorem word_at {l : List ObjA} (hw : WfA l) (hu : usedA l ≤ 262144) {k : Nat} (h : k < l.length) : ∃ x, (wordsA 0 l)[k]? = some x ∧ findA l x = some (k : Int) ∧ (kdW x = 3 ∨ kdW x = 4) ∧ 0 ≤ x ∧ x < 18446744073709551616 := by
  have hk := used_take k h
  have hle := used_take_le l (k + 1)
  have hc := cost_pos (hw k h).good (hw k h).big
  have hf := findA_new l[k] (take_wf hw k).cost (by omega)
  have e : Ext (l.take k ++ [l[k]]) l := by
    rw [← List.take_succ_eq_append_getElem h]
    exact ext_take l (k + 1)
  have hlen : (l.take k).length = k := by rw [List.length_take]; omega
  rw [hlen] at hf
  obtain ⟨_, f2, f3⟩ := word_seen hw hu h
  refine ⟨wordAt l[k].cell (usedA (l.take k)), by rw [wordsA_at l 0 k h, Nat.zero_add], e.find hf, ?_, f2, f3⟩
  rw [kdW_wordAt (by omega)]
  split <;> simp
theorem find_word {l : List ObjA} (hw : WfA l) (hu : usedA l ≤ 262144) {x : Int} (hk : kdW x ≠ 1 ∧ kdW x ≠ 2) :
    (∀ k : Nat, findA l x = some (k : Int) → (wordsA 0 l)[k]? = some x) ∧ (∀ k : Nat, (wordsA 0 l)[k]? = some x → findA l x = some (k : Int)) ∧ (findA l x = none ∨ ∃ k : Nat, findA l x = some (k : Int)) := by
  refine ⟨fun k hf => ?_, fun k hx => ?_, ?_⟩
  · unfold findA at hf
    rw [if_neg (by omega)] at hf
    split at hf
    · split at hf
      · split at hf
        · rename_i hx
          have e := Int.natCast_inj.1 (Option.some.inj hf)
          rw [← e]
          exact hx
        · cases hf
      · cases hf
    · cases hf
  · have hlt := (List.getElem?_eq_some_iff.1 hx).1
    rw [wordsA_len] at hlt
    obtain ⟨y, hy, hf, _⟩ := word_at hw hu hlt
    rw [hx] at hy
    cases hy
    exact hf
  · cases hf : findA l x with
    | none => exact .inl rfl
    | some k =>
      right
      unfold findA at hf
      rw [if_neg (by omega)] at hf
      split at hf
      · split at hf
        · split at hf
          · rename_i j _ _
            exact ⟨j, by have := Option.some.inj hf; rw [← this]⟩
          · cases hf
        · cases hf
      · cases hf

theorem val_kd1 {l : List ObjA} {x : Int} (h : kdW x = 1) : valR l x = ⟨-1, ⟨1, valW x, ⟨#[]⟩⟩⟩ ∧ (findA l x).isSome = true := by
  have hf : findA l x = some (-1) := by unfold findA; rw [if_pos (.inl h)]
  have h2 : x ≠ 2 := fun e => by rw [e] at h; exact absurd h (by decide)
  refine ⟨?_, by rw [hf]; rfl⟩
  unfold valR
  rw [hf]
  simp [cellW, h2]
theorem val_kd2 {l : List ObjA} {x : Int} (h : kdW x = 2) : valR l x = ⟨-1, ⟨6, 0, ⟨#[]⟩⟩⟩ ∧ (findA l x).isSome = true := by
  have hf : findA l x = some (-1) := by unfold findA; rw [if_pos (.inr h)]
  have h2 : x = 2 := by
    unfold kdW at h
    repeat' split at h
    all_goals omega
  refine ⟨?_, by rw [hf]; rfl⟩
  unfold valR
  rw [hf]
  simp [cellW, h2]
set_option maxRecDepth 10000 in
set_option maxHeartbeats 4000000 in
theorem value_any (w : World) (O : Nat → Prop) (ra cells : Nat) (l : List ObjA) (A : Option Addr) (cap : Nat) (x : Int) (h0 : 0 ≤ x) (h1 : x < 18446744073709551616) (h : RfAt w O ra cells (refOf l)) (hw : WfA l) (hu : usedA l ≤ 262144) (hr : WReads w A (wordsA 0 l)) :
    Calls Tryd.prog 64 #[.pointer (some ⟨ra, 0, none⟩), .slice A l.length cap, .int .u64 x] w fun e w' => e = .returned (.tuple #[(valR l x).agg, .bool (findA l x).isSome]) ∧ Below w.heap.size w w' := by
  have hY := heap_new w (.cells #[.int .i64 0, .int .i64 0, .int .i64 0, .string ⟨#[]⟩] 39)
  have hBA := below_one w (.cells #[.int .i64 0, .int .i64 0, .int .i64 0, .string ⟨#[]⟩] 39)
  obtain ⟨wA, hwA⟩ : ∃ W, w.alloc (.cells #[.int .i64 0, .int .i64 0, .int .i64 0, .string ⟨#[]⟩] 39) = W := ⟨_, rfl⟩
  rw [hwA] at hY hBA
  have BY : BlkIs wA w.heap.size #[.int .i64 0, .int .i64 0, .int .i64 0, .string ⟨#[]⟩] 39 := hY
  have HWA := Lib.hid hwA
  have HBA := Lib.hid hBA
  have HY := Lib.hid BY
  have fin : ∀ (W : World) (hB : Below wA.heap.size wA W) (v : ValR), Below w.heap.size w ((((W.setCell ⟨w.heap.size, 0, none⟩ (.int .i64 v.obj)).setCell ⟨w.heap.size, 1, none⟩ (.int .i64 v.cell.kind)).setCell ⟨w.heap.size, 2, none⟩ (.int .i64 v.cell.n)).setCell ⟨w.heap.size, 3, none⟩ (.string v.cell.text)) := fun W hB v =>
    ((((below_then HBA.out hB).setCell (p := ⟨w.heap.size, 0, none⟩) (Nat.le_refl _) _).setCell (p := ⟨w.heap.size, 1, none⟩) (Nat.le_refl _) _).setCell (p := ⟨w.heap.size, 2, none⟩) (Nat.le_refl _) _).setCell (p := ⟨w.heap.size, 3, none⟩) (Nat.le_refl _) _
  have FIN := Lib.hid fin
  have z0 := BY.cell 0 (v := .int .i64 0) rfl
  have z1 := BY.cell 1 (v := .int .i64 0) rfl
  have z2 := BY.cell 2 (v := .int .i64 0) rfl
  have z3 := BY.cell 3 (v := .string ⟨#[]⟩) rfl
  have f0 := BY.frozen 0
  have f1 := BY.frozen 1
  have f2 := BY.frozen 2
  have f3 := BY.frozen 3
  have H := Lib.hid h
  have HR := Lib.hid hr
  have HW := Lib.hid hw
  clear hwA hBA hY BY fin h hr hw
  by_cases k1 : kdW x = 1
  · obtain ⟨e1, e2⟩ := val_kd1 (l := l) k1
    have E := Lib.hid (⟨e1, e2⟩ : valR l x = ⟨-1, ⟨1, valW x, ⟨#[]⟩⟩⟩ ∧ (findA l x).isSome = true)
    have BZ := Lib.hid (blk_set4 HY.out (.int .i64 (-1)) (.int .i64 1) (.int .i64 (valW x)) (.string ⟨#[]⟩))
    have hrv := fun W => rvalue_any x W h0 h1 k1
    clear e1 e2
    go_enter Tryd.func64, Tryd.ntmps64
    go_wp2_with fail
    rw [HWA.out]
    refine (rkind_any x _ h0 h1).mono ?_
    rintro e w1 ⟨rfl, rfl⟩
    rw [k1]
    go_wp2_with fail
    refine (hrv _).mono ?_
    rintro e w1 ⟨rfl, rfl⟩
    go_wp2
    obtain ⟨q0, q1, q2, q3⟩ := (⟨BZ.out.cell 0 rfl, BZ.out.cell 1 rfl, BZ.out.cell 2 rfl, BZ.out.cell 3 rfl⟩ : _ ∧ _ ∧ _ ∧ _)
    refine bodyPost_ret (v := .tuple #[.agg #[.int .i64 (-1), .int .i64 1, .int .i64 (valW x), .string ⟨#[]⟩], .bool true]) (by simp [results, Tryd.results64, go_sem, q0, q1, q2, q3]) rfl ?_
    rw [E.out.1, E.out.2]
    exact ⟨rfl, FIN.out _ (Below.refl _ _) ⟨-1, ⟨1, valW x, ⟨#[]⟩⟩⟩⟩
  by_cases k2 : kdW x = 2
  · obtain ⟨e1, e2⟩ := val_kd2 (l := l) k2
    have E := Lib.hid (⟨e1, e2⟩ : valR l x = ⟨-1, ⟨6, 0, ⟨#[]⟩⟩⟩ ∧ (findA l x).isSome = true)
    have BZ := Lib.hid (blk_set4 HY.out (.int .i64 (-1)) (.int .i64 6) (.int .i64 0) (.string ⟨#[]⟩))
    clear e1 e2 k1
    go_enter Tryd.func64, Tryd.ntmps64
    go_wp2_with fail
    rw [HWA.out]
    refine (rkind_any x _ h0 h1).mono ?_
    rintro e w1 ⟨rfl, rfl⟩
    rw [k2]
    go_wp2
    obtain ⟨q0, q1, q2, q3⟩ := (⟨BZ.out.cell 0 rfl, BZ.out.cell 1 rfl, BZ.out.cell 2 rfl, BZ.out.cell 3 rfl⟩ : _ ∧ _ ∧ _ ∧ _)
    refine bodyPost_ret (v := .tuple #[.agg #[.int .i64 (-1), .int .i64 6, .int .i64 0, .string ⟨#[]⟩], .bool true]) (by simp [results, Tryd.results64, go_sem, q0, q1, q2, q3]) rfl ?_
    rw [E.out.1, E.out.2]
    exact ⟨rfl, FIN.out _ (Below.refl _ _) ⟨-1, ⟨6, 0, ⟨#[]⟩⟩⟩⟩
  obtain ⟨F1, F2, F3⟩ := find_word HW.out hu ⟨k1, k2⟩
  have b1 : (kdW x == 1) = false := beq_eq_false_iff_ne.2 k1
  have b2 : (kdW x == 2) = false := beq_eq_false_iff_ne.2 k2
  have HF1 := Lib.hid F1
  have HF2 := Lib.hid F2
  have HF3 := Lib.hid F3
  have hll := HW.out.len
  clear k1 k2 F1 F2 F3
  go_enter Tryd.func64, Tryd.ntmps64
  go_wp2_with fail
  rw [HWA.out]
  refine (rkind_any x _ h0 h1).mono ?_
  rintro e w1 ⟨rfl, rfl⟩
  go_wp2_with fail
  go_loopw [10] (fun i wr => ∃ j : Nat, j ≤ l.length ∧ i = .int .i64 (j : Int) ∧ wr = w1 ∧ Hid (∀ k : Nat, k < j → (wordsA 0 l)[k]? ≠ some x)) (fun i wr => l.length - (intOf i).toNat)
  case atStart => exact ⟨0, Nat.zero_le _, rfl, rfl, Lib.hid (fun k hk => by omega)⟩
  case round =>
    obtain ⟨j, hj, rfl, rfl, hN⟩ := hrel
    obtain ⟨vO, pv, hRf⟩ := H.out.below HBA.out
    obtain ⟨AO, cO, hvO⟩ := row_slice hRf.row
    obtain ⟨c0, c1⟩ := hRf.cells
    rw [hvO, refOf_len] at c1
    by_cases hlt : j < l.length
    · have hjr : j < (refOf l).length := by rw [refOf_len]; exact hlt
      have hjw : j < (wordsA 0 l).length := by rw [wordsA_len]; exact hlt
      obtain ⟨gO, cO', hv2, o0, o1, o2, _⟩ := hRf.objs j hjr
      obtain ⟨rfl, rfl⟩ : AO = some ⟨gO, 0, none⟩ ∧ cO = cO' := by
        rw [hvO] at hv2
        simpa using hv2
      have hrc : (refOf l)[j].cell = l[j].cell := by simp [refOf]
      rw [hrc] at o0 o1 o2
      obtain ⟨g, o, rfl, hcw⟩ := (HR.out.below HBA.out) j hjw
      have hjn : (j : Int) < (l.length : Int) := by omega
      have hjb : decide ((j : Int) < (l.length : Int)) = true := decide_eq_true hjn
      have hge : (wordsA 0 l)[j]? = some (wordsA 0 l)[j] := List.getElem?_eq_getElem hjw
      obtain ⟨c, hc⟩ : ∃ c, l[j].cell = c := ⟨_, rfl⟩
      rw [hc] at o0 o1 o2
      by_cases hx : (wordsA 0 l)[j] = x
      · have hf := HF2.out j (by rw [hge, hx])
        have hv : valR l x = ⟨(j : Int), c⟩ := by
          unfold valR
          rw [hf]
          simp only
          rw [if_neg (by omega), Int.toNat_natCast, List.getElem?_eq_getElem hlt]
          simp [hc]
        have E := Lib.hid (⟨hv, by rw [hf]; rfl⟩ : valR l x = ⟨(j : Int), c⟩ ∧ (findA l x).isSome = true)
        rw [hx] at hcw
        have hxx : (x == x) = true := by simp
        have BZ := Lib.hid (blk_set4 HY.out (.int .i64 (j : Int)) (.int .i64 c.kind) (.int .i64 c.n) (.string c.text))
        clear hRf hvO hv2 hge hx hf hv c0 hrc hc
        go_wp2
        obtain ⟨q0, q1, q2, q3⟩ := (⟨BZ.out.cell 0 rfl, BZ.out.cell 1 rfl, BZ.out.cell 2 rfl, BZ.out.cell 3 rfl⟩ : _ ∧ _ ∧ _ ∧ _)
        refine bodyPost_ret (v := .tuple #[.agg #[.int .i64 (j : Int), .int .i64 c.kind, .int .i64 c.n, .string c.text], .bool true]) (by simp [results, Tryd.results64, go_sem, q0, q1, q2, q3]) rfl ?_
        rw [E.out.1, E.out.2]
        exact ⟨rfl, FIN.out _ (Below.refl _ _) ⟨(j : Int), c⟩⟩
      · obtain ⟨y, hy⟩ : ∃ y, (wordsA 0 l)[j] = y := ⟨_, rfl⟩
        rw [hy] at hcw hx hge
        have hxx : (y == x) = false := beq_eq_false_iff_ne.2 hx
        have HN2 : Hid (∀ k : Nat, k < j + 1 → (wordsA 0 l)[k]? ≠ some x) := Lib.hid (fun k hk => by
          by_cases e : k = j
          · subst e; rw [hge]; intro h; exact hx (Option.some.inj h)
          · exact hN.out k (by omega))
        clear hRf hvO hv2 hge hx c0 hrc hc o0 o1 o2 hy
        go_wp2
        go_roundw
        case rel => exact ⟨j + 1, by omega, by go_num, by first | trivial | rfl, HN2⟩
        case measure => simp [intOf]; omega
    · obtain rfl : j = l.length := by omega
      have hf : findA l x = none := by
        rcases HF3.out with h | ⟨k, hk⟩
        · exact h
        · have h1 := HF1.out k hk
          have h2 := (List.getElem?_eq_some_iff.1 h1).1
          rw [wordsA_len] at h2
          exact absurd h1 (hN.out k h2)
      have hv : valR l x = ⟨0, zeroR⟩ := by unfold valR; rw [hf]
      have E := Lib.hid (⟨hv, by rw [hf]; rfl⟩ : valR l x = ⟨0, zeroR⟩ ∧ (findA l x).isSome = false)
      have BZ := Lib.hid (blk_set4 HY.out (.int .i64 0) (.int .i64 0) (.int .i64 0) (.string ⟨#[]⟩))
      have hjb : decide ((l.length : Int) < (l.length : Int)) = false := decide_eq_false (by omega)
      clear hRf hvO c0 hf hv
      go_wp2
      obtain ⟨q0, q1, q2, q3⟩ := (⟨BZ.out.cell 0 rfl, BZ.out.cell 1 rfl, BZ.out.cell 2 rfl, BZ.out.cell 3 rfl⟩ : _ ∧ _ ∧ _ ∧ _)
      refine bodyPost_ret (v := .tuple #[.agg #[.int .i64 0, .int .i64 0, .int .i64 0, .string ⟨#[]⟩], .bool false]) (by simp [results, Tryd.results64, go_sem, q0, q1, q2, q3]) rfl ?_
      rw [E.out.1, E.out.2]
      exact ⟨rfl, FIN.out _ (Below.refl _ _) ⟨0, zeroR⟩⟩
end Go.Proofs.YtejcbpbhhofhlaaDoor.Tm
