/- A map of words to words; move's where; mapped. -/
import Derived.Test.YthgnihckeckaiaaDoorDpM
import Derived.Test.YthgnihckeckaiaaDoorSwC
import Derived.Test.YthgnihckeckaiaaDoorSwW
namespace Go.Proofs.YthgnihckeckaiaaDoor.Tm
open Go.RowKit
set_option linter.unusedVariables false
set_option linter.unusedSimpArgs false

def entsPF : Nat → List (Int × Int) → List MapEntry
  | _, [] => []
  | i, p :: d => ⟨.int .u64 p.1, .int .u64 p.2, i⟩ :: entsPF (i + 1) d
def entsP (d : List (Int × Int)) : Array MapEntry := (entsPF 0 d).toArray
theorem entsPF_snoc : ∀ (i : Nat) (d : List (Int × Int)) (p : Int × Int), entsPF i (d ++ [p]) = entsPF i d ++ [⟨.int .u64 p.1, .int .u64 p.2, i + d.length⟩]
  | i, [], p => by simp [entsPF]
  | i, q :: d, p => by
    rw [List.cons_append, entsPF, entsPF_snoc, entsPF, List.cons_append]
    rw [show i + 1 + d.length = i + (q :: d).length by simp; omega]
theorem findNow_p (a : Int) : ∀ (d : List (Int × Int)) (i n : Nat), (∃ k, Instr.findNow (.int .u64) (.int .u64 a) (entsPF i d) n = some (some (k, .int .u64 (lookM d a)))) ∨ (Instr.findNow (.int .u64) (.int .u64 a) (entsPF i d) n = some none ∧ lookM d a = 0)
  | [], _, _ => .inr ⟨rfl, rfl⟩
  | p :: d, i, n => by
    rw [entsPF]
    unfold Instr.findNow lookM
    by_cases h : a = p.1
    · rw [if_pos h]
      subst h
      exact .inl ⟨n, by simp [Instr.sameNow]⟩
    · have e : (a == p.1) = false := beq_eq_false_iff_ne.2 h
      rw [if_neg h]
      simp only [Instr.sameNow, if_true, e]
      exact findNow_p a d (i + 1) (n + 1)
theorem findNow_pn (a : Int) : ∀ (d : List (Int × Int)) (i n : Nat), (∀ p ∈ d, p.1 ≠ a) → Instr.findNow (.int .u64) (.int .u64 a) (entsPF i d) n = some none
  | [], _, _, _ => rfl
  | p :: d, i, n, h => by
    rw [entsPF]
    unfold Instr.findNow
    have e : (a == p.1) = false := beq_eq_false_iff_ne.2 (fun e => h p (by simp) e.symm)
    simp only [Instr.sameNow, if_true, e]
    exact findNow_pn a d (i + 1) (n + 1) (fun q hq => h q (by simp [hq]))
theorem run_lookP (w : World) (bm : Nat) (d : List (Int × Int)) (a : Int) (hm : w.heap[bm]? = some (.map (entsP d) d.length)) :
    (Instr.lookup 143 (.map (some bm)) (.int .u64 a) false).run Tryd.prog w = .ok (.int .u64 (lookM d a)) w := by
  have hz : (zeroValue 27).run Tryd.prog w = .ok (.int .u64 0) w := by kernel_rfl
  have hc := MapKept.run_checkKey (P := Tryd.prog) (w := w) (kt := 27) (k := .int .u64 a) Tryd.underlying27 rfl (entsP d).isEmpty 9999
  rcases findNow_p a d 0 0 with ⟨k, hk⟩ | ⟨hk, h0⟩
  · have hf := MapKept.run_findKey (P := Tryd.prog) (w := w) (kt := 27) (k := .int .u64 a) (l := (entsP d).toList) Tryd.underlying27 (show Instr.findNow (.int .u64) (.int .u64 a) (entsPF 0 d) 0 = _ from hk)
    simp [Instr.lookup, run_underlying Tryd.underlying143, MapKept.run_getObj_map hm, hc, hf, Result.andThen]
  · have hf := MapKept.run_findKey (P := Tryd.prog) (w := w) (kt := 27) (k := .int .u64 a) (l := (entsP d).toList) Tryd.underlying27 (show Instr.findNow (.int .u64) (.int .u64 a) (entsPF 0 d) 0 = _ from hk)
    rw [h0]
    simp [Instr.lookup, run_underlying Tryd.underlying143, MapKept.run_getObj_map hm, hc, hf, hz, Result.andThen]
theorem run_putP (w : World) (bm : Nat) (d : List (Int × Int)) (a n : Int) (hm : w.heap[bm]? = some (.map (entsP d) d.length)) (hn : a ∉ d.map Prod.fst) :
    ∃ w', (Instr.mapUpdate 143 (.map (some bm)) (.int .u64 a) (.int .u64 n)).run Tryd.prog w = .ok () w' ∧ w'.heap[bm]? = some (.map (entsP (d ++ [(a, n)])) (d ++ [(a, n)]).length) ∧ w.grownBy w' (some bm) := by
  have hf := MapKept.run_findKey (P := Tryd.prog) (w := w) (kt := 27) (k := .int .u64 a) (l := (entsP d).toList) Tryd.underlying27 (show Instr.findNow (.int .u64) (.int .u64 a) (entsPF 0 d) 0 = _ from findNow_pn a d 0 0 (fun p hp e => hn (List.mem_map.2 ⟨p, hp, e⟩)))
  have hc := MapKept.run_checkKey (P := Tryd.prog) (w := w) (kt := 27) (k := .int .u64 a) Tryd.underlying27 rfl false 9999
  have hs := MapKept.run_setObj_map (P := Tryd.prog) (w := w) (.map ((entsP d).push ⟨.int .u64 a, .int .u64 n, d.length⟩) (d.length + 1)) hm
  refine ⟨{ w with heap := w.heap.setIfInBounds bm (.map ((entsP d).push ⟨.int .u64 a, .int .u64 n, d.length⟩) (d.length + 1)) }, ?_, ?_, ?_⟩
  rotate_left
  · have e : entsP (d ++ [(a, n)]) = (entsP d).push ⟨.int .u64 a, .int .u64 n, d.length⟩ := by
      unfold entsP
      rw [entsPF_snoc]
      simp
    rw [e, List.length_append, List.length_singleton]
    exact (MapKept.heap_set hm).1
  · exact ⟨rfl, rfl, rfl, by simp, fun i _ hi => (MapKept.heap_set hm).2 i (fun e => hi (by rw [e]))⟩
  · simp [Instr.mapUpdate, run_underlying Tryd.underlying143, MapKept.run_getObj_map hm, hc, hf, hs, Result.andThen]
def moveV (fa ta : Addr) (bm : Nat) : Value := .agg #[.pointer (some fa), .pointer (some ta), .map (some bm)]
theorem where_any (w : World) (fa ta : Addr) (bm : Nat) (d : List (Int × Int)) (x : Int) (h0 : 0 ≤ x) (h1 : x < 18446744073709551616) (hm : w.heap[bm]? = some (.map (entsP d) d.length)) :
    Calls Tryd.prog 96 #[.agg #[.pointer (some fa), .pointer (some ta), .map (some bm)], .int .u64 x] w fun e w' => e = .returned (.int .u64 (wherM d x)) ∧ Below w.heap.size w w' := by
  have hB0 := below_one w (.cells #[.pointer (some fa), .pointer (some ta), .map (some bm)] 145)
  have hm1 := (hB0.block _ (lt_of_block hm)).trans hm
  have B0 : BlkIs (w.alloc (.cells #[.pointer (some fa), .pointer (some ta), .map (some bm)] 145)) w.heap.size #[.pointer (some fa), .pointer (some ta), .map (some bm)] 145 := heap_new w _
  have c2 := B0.cell 2 (v := .map (some bm)) rfl
  have hlk := run_lookP _ bm d x hm1
  have hst := stands_any x (w.alloc (.cells #[.pointer (some fa), .pointer (some ta), .map (some bm)] 145)) h0 h1
  have HB := Lib.hid hB0
  cases hp : ptrW x with
  | true =>
    have HW := Lib.hid (show wherM d x = lookM d x by unfold wherM; rw [if_pos hp])
    rw [hp] at hst
    clear hB0 hm hm1 B0 hp
    go_enter Tryd.func96, Tryd.ntmps96
    go_wp2_with fail
    refine hst.mono ?_
    rintro e w' ⟨rfl, hw⟩
    subst hw
    go_wp2
    go_ret
    exact ⟨by rw [HW.out]; rfl, HB.out⟩
  | false =>
    have HW := Lib.hid (show wherM d x = x by unfold wherM; rw [if_neg (by rw [hp]; simp)])
    rw [hp] at hst
    clear hB0 hm hm1 B0 hp hlk
    go_enter Tryd.func96, Tryd.ntmps96
    go_wp2_with fail
    refine hst.mono ?_
    rintro e w' ⟨rfl, hw⟩
    subst hw
    go_wp2
    go_ret
    exact ⟨by rw [HW.out]; rfl, HB.out⟩
set_option maxHeartbeats 2000000 in
theorem mapped_any (w : World) (fa ta : Addr) (bm : Nat) (d : List (Int × Int)) (l : List Int) (A : Option Addr) (cap : Nat) (hr : WReads w A l) (hx : ∀ x ∈ l, 0 ≤ x ∧ x < 18446744073709551616) (hl : l.length ≤ 10000000000000) (hm : w.heap[bm]? = some (.map (entsP d) d.length)) :
    Calls Tryd.prog 95 #[.slice A l.length cap, .func (.func 96) #[.agg #[.pointer (some fa), .pointer (some ta), .map (some bm)]] #[]] w fun e w' => ∃ A' c', e = .returned (.slice A' l.length c') ∧ HeldSt w w' (l.map (wherM d)) (.slice A' l.length c') := by
  have HR := Lib.hid hr
  have HX := Lib.hid hx
  have HM := Lib.hid hm
  obtain ⟨i0, hi, hz0, hz1, hz2⟩ := info_parts word_info
  clear hr hx hm
  go_enter Tryd.func95, Tryd.ntmps95
  go_wp2_with fail
  go_loopw [5, 10] (fun v i wr => ∃ j : Nat, j ≤ l.length ∧ i = .int .i64 (j : Int) ∧ Hid (HeldSt w wr ((l.take j).map (wherM d)) v)) (fun v i wr => l.length - (intOf i).toNat)
  case atStart => exact ⟨0, Nat.zero_le _, rfl, Lib.hid ⟨Below.refl _ _, row_nil _ _ _ _⟩⟩
  case round =>
    obtain ⟨j, hj, rfl, hS⟩ := hrel
    have hlen : ((l.take j).map (wherM d)).length = j := by rw [List.length_map, List.length_take]; omega
    obtain ⟨Av, cv, hv⟩ := row_slice hS.out.row
    rw [hlen] at hv
    subst hv
    have hszr := hS.out.base.size
    have HL := Lib.hid hlen
    clear hlen
    by_cases hlt : j < l.length
    · obtain ⟨g, o, rfl, q0⟩ := (HR.out.below hS.out.base) j hlt
      have hxr := HX.out l[j] (List.getElem_mem hlt)
      have HTK := Lib.hid (show (l.take (j + 1)).map (wherM d) = (l.take j).map (wherM d) ++ [wherM d l[j]] by rw [List.take_succ_eq_append_getElem hlt, List.map_append]; rfl)
      have hj1 : (j : Int) < (l.length : Int) := by omega
      have hj0 : (0 : Int) ≤ (j : Int) := Int.natCast_nonneg _
      have hbl : decide ((j : Int) < (l.length : Int)) = true := decide_eq_true hj1
      obtain ⟨x, hxe⟩ : ∃ x, l[j] = x := ⟨_, rfl⟩
      rw [hxe] at q0 hxr HTK
      have hwh := where_any wr fa ta bm d x hxr.1 hxr.2 ((hS.out.base.block _ (lt_of_block HM.out)).trans HM.out)
      obtain ⟨y, hy⟩ : ∃ y, wherM d x = y := ⟨_, rfl⟩
      rw [hy] at hwh HTK
      have HROW := Lib.hid (show wr.ownsRow w.heap.size 27 1 (.slice Av j cv) j (encW ((l.take j).map (wherM d))) by
        have := hS.out.row
        rw [HL.out] at this
        exact this)
      clear hxe hy
      go_wp2_with fail
      refine hwh.mono ?_
      rintro e w2 ⟨rfl, hb2⟩
      have HROW2 := Lib.hid (row_below HROW.out hb2)
      have HB2 := Lib.hid hb2
      have hs2 := hb2.size
      clear hwh hb2
      go_wp2_with (at_builtin
                   refine wpList_append_own_at _ rfl (.tmp 14) (.tmp 18) _ rfl w.heap.size 27 i0 (.int .u64 0) 1 8 Tryd.underlying31 hi hz0 hz1 hz2 rfl (by decide) (.slice Av j cv) j (encW ((l.take j).map (wherM d))) rfl (HROW2.out.alloc _) ⟨w2.heap.size, 0, none⟩ 1 1 [.int .u64 y] rfl rfl (cell_one_new _ _ _) (by simp [Value.oneCell']) (by unfold maxLen; omega) (by omega) (by rw [World.size_alloc]; omega) ?_
                   intro v5 w5 hown5 hgrow5 hnil5 hat5)
      have HS5 := Lib.hid (show HeldSt w w5 ((l.take (j + 1)).map (wherM d)) v5 from ⟨below_grown (below_alloc' (below_then hS.out.base HB2.out) _) hgrow5 (row_base HROW.out), by
        rw [HTK.out, List.length_append, List.length_singleton, HL.out, encW_snoc]
        exact hown5⟩)
      go_roundw
      case rel => exact ⟨j + 1, hlt, by go_num, HS5⟩
      case measure => simp [intOf]; omega
    · obtain rfl : j = l.length := by omega
      have hst := hS.out
      rw [List.take_length] at hst
      have HST := Lib.hid hst
      have hbl : decide ((l.length : Int) < (l.length : Int)) = false := decide_eq_false (by omega)
      clear hS hst hlt hj
      go_wp2
      go_ret
      exact ⟨Av, cv, rfl, HST.out⟩
end Go.Proofs.YthgnihckeckaiaaDoor.Tm
