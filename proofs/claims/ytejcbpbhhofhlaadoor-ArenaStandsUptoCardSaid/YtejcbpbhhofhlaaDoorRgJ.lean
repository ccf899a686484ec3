/- Layer 3's law: means, chosen, made, apart. -/
import Derived.Test.YtejcbpbhhofhlaaDoorRgI
namespace Go.Proofs.YtejcbpbhhofhlaaDoor.Tm
open Go.RowKit
set_option linter.unusedVariables false
set_option linter.unusedSimpArgs false

set_option maxHeartbeats 1000000 in
theorem means_true (w : World) (O : Nat → Prop) (ra cells : Nat) (l : List ObjA) (A : Option Addr) (cap : Nat) (x : Int) (h0 : 0 ≤ x) (h1 : x < 18446744073709551616) (h : RfAt w O ra cells (refOf l)) (hw : WfA l) (hu : usedA l ≤ 262144) (hr : WReads w A (wordsA 0 l)) (hf : (findA l x).isSome = true) :
    Calls Tryd.prog 63 #[.pointer (some ⟨ra, 0, none⟩), .slice A l.length cap, .int .u64 x, (valR l x).agg] w fun e w' => e = .returned (.bool true) ∧ Below w.heap.size w w' := by
  have hv := fun W (hB : Below w.heap.size w W) => value_any W O ra cells l A cap x h0 h1 (h.below hB) hw hu (hr.below hB)
  rw [hf] at hv
  obtain ⟨v, hvv⟩ : ∃ v, valR l x = v := ⟨_, rfl⟩
  rw [hvv] at hv ⊢
  unfold ValR.agg at hv ⊢
  have hB0 := below_one w (.cells #[.int .i64 v.obj, .int .i64 v.cell.kind, .int .i64 v.cell.n, .string v.cell.text] 39)
  have BV : BlkIs (w.alloc (.cells #[.int .i64 v.obj, .int .i64 v.cell.kind, .int .i64 v.cell.n, .string v.cell.text] 39)) w.heap.size #[.int .i64 v.obj, .int .i64 v.cell.kind, .int .i64 v.cell.n, .string v.cell.text] 39 := heap_new w _
  have hv := hv _ hB0
  have HBV := Lib.hid BV
  have HB0 := Lib.hid hB0
  clear BV hB0 hvv h hw hr hf
  go_enter Tryd.func63, Tryd.ntmps63
  go_wp2_with fail
  refine hv.mono ?_
  rintro e w1 ⟨rfl, hb⟩
  have B2 := (HBV.out.below hb).below (below_one w1 (.cells #[.int .i64 v.obj, .int .i64 v.cell.kind, .int .i64 v.cell.n, .string v.cell.text] 39))
  have k0 := B2.cell 0 (v := .int .i64 v.obj) rfl
  have k1 := B2.cell 1 (v := .int .i64 v.cell.kind) rfl
  have k2 := B2.cell 2 (v := .int .i64 v.cell.n) rfl
  have k3 := B2.cell 3 (v := .string v.cell.text) rfl
  have HB2 := Lib.hid (below_alloc' (below_then HB0.out hb) (.cells #[.int .i64 v.obj, .int .i64 v.cell.kind, .int .i64 v.cell.n, .string v.cell.text] 39))
  clear B2 hb hv
  go_wp2
  go_ret
  exact ⟨by simp, HB2.out⟩
def pickV (raw : Bool) (n x : Int) : Value := .agg #[.bool raw, .int .i64 n, .int .u64 x]
set_option maxHeartbeats 1000000 in
theorem chosen_any (w : World) (l : List ObjA) (A : Option Addr) (cap : Nat) (raw : Bool) (n x : Int) (hw : WfA l) (hu : usedA l ≤ 262144) (hr : WReads w A (wordsA 0 l)) (hn : -9223372036854775808 ≤ n ∧ n < 9223372036854775808) (hx : 0 ≤ x ∧ x < 18446744073709551616) :
    Calls Tryd.prog 46 #[.slice A l.length cap, .agg #[.bool raw, .int .i64 n, .int .u64 x]] w fun e w' => ∃ y, e = .returned (.int .u64 y) ∧ 0 ≤ y ∧ y < 18446744073709551616 ∧ Below w.heap.size w w' := by
  have hB0 := below_one w (.cells #[.bool raw, .int .i64 n, .int .u64 x] 94)
  have hll := hw.len
  cases raw with
  | true =>
    go_enter Tryd.func46, Tryd.ntmps46
    go_wp2
    go_ret
    exact ⟨x, rfl, hx.1, hx.2, hB0⟩
  | false =>
    by_cases hl : l.length = 0
    · have hlb : ((l.length : Int) == 0) = true := by rw [hl]; rfl
      have hli : (l.length : Int) = 0 := by omega
      go_enter Tryd.func46, Tryd.ntmps46
      go_wp2
      go_ret
      exact ⟨x, rfl, hx.1, hx.2, hB0⟩
    · have hlb : ((l.length : Int) == 0) = false := beq_eq_false_iff_ne.2 (by omega)
      have hcn := count_any n l.length (w.alloc (.cells #[.bool false, .int .i64 n, .int .u64 x] 94)) (by omega) (by omega) hn
      have HR := Lib.hid hr
      have HW := Lib.hid (fun k (h : k < l.length) => word_at hw hu h)
      clear hr hw
      go_enter Tryd.func46, Tryd.ntmps46
      go_wp2_with fail
      refine hcn.mono ?_
      rintro e w1 ⟨k, hk, rfl, rfl⟩
      obtain ⟨y, hy, _, _, y0, y1⟩ := HW.out k hk
      have hkw : k < (wordsA 0 l).length := by rw [wordsA_len]; exact hk
      obtain ⟨g, o, rfl, hc⟩ := HR.out k hkw
      have hc' := cell_below hB0 hc
      rw [List.getElem?_eq_getElem hkw] at hy
      rw [Option.some.inj hy] at hc'
      have hk1 : (k : Int) < (l.length : Int) := by omega
      have hk0 : (0 : Int) ≤ (k : Int) := Int.natCast_nonneg _
      clear hc hy hcn
      go_wp2
      go_ret
      exact ⟨y, rfl, y0, y1, hB0⟩
set_option maxHeartbeats 2000000 in
theorem made_ok (w : World) (O OR : Nat → Prop) (ba ra room : Nat) (l : List ObjA) (was : Nat) (x E : Int) (v : ValR) (hA : ArAt w O ba room l) (hR : RfAt w OR ra room (refOf l)) (hwas : was ≤ l.length) (h0 : 0 ≤ x) (h1 : x < 18446744073709551616)
    (hbad : E ≠ 0 → x = 0) (hok : E = 0 → (findA l x).isSome = true ∧ v = valR l x) :
    Calls Tryd.prog 42 #[.pointer (some ⟨ba, 0, none⟩), .pointer (some ⟨ra, 0, none⟩), .int .i64 (was : Int), .int .u64 x, .int .i64 E, v.agg, .int .i64 E] w fun e w' => e = .returned (.bool true) ∧ Below w.heap.size w w' := by
  have hlims := hA.lims
  have hwf := hA.wf
  have hll := hwf.len
  unfold ValR.agg
  have hB0 := below_one w (.cells #[.int .i64 v.obj, .int .i64 v.cell.kind, .int .i64 v.cell.n, .string v.cell.text] 39)
  have BV : BlkIs (w.alloc (.cells #[.int .i64 v.obj, .int .i64 v.cell.kind, .int .i64 v.cell.n, .string v.cell.text] 39)) w.heap.size #[.int .i64 v.obj, .int .i64 v.cell.kind, .int .i64 v.cell.n, .string v.cell.text] 39 := heap_new w _
  have hall := all_any _ O ba room l (hA.below hB0)
  rw [wordsA_len] at hall
  have HBV := Lib.hid BV
  have HB0 := Lib.hid hB0
  have HR := Lib.hid hR
  have HWF := Lib.hid hwf
  have hEE : (E != E) = false := by simp
  have hlb : ((l.length : Int) != (l.length : Int)) = false := by simp
  have hwb : decide ((l.length : Int) < (was : Int)) = false := decide_eq_false (by omega)
  have hwn : ¬ l.length < was := by omega
  clear hA hR hwf BV hB0
  go_enter Tryd.func42, Tryd.ntmps42
  go_wp2_with fail
  refine hall.mono ?_
  rintro e w1 ⟨A1, c1, rfl, hrow, hb⟩
  have hB1 := below_then HB0.out hb
  obtain ⟨vO, pv, hRf⟩ := HR.out.below hB1
  obtain ⟨AO, cO, hvO⟩ := hRf.row |> row_slice
  obtain ⟨c0, c1'⟩ := hRf.cells
  rw [hvO, refOf_len] at c1'
  have B1 := HBV.out.below hb
  have k0 := B1.cell 0 (v := .int .i64 v.obj) rfl
  have k1 := B1.cell 1 (v := .int .i64 v.cell.kind) rfl
  have k2 := B1.cell 2 (v := .int .i64 v.cell.n) rfl
  have k3 := B1.cell 3 (v := .string v.cell.text) rfl
  have hrow' := hrow
  rw [← wordsA_len 0 l] at hrow'
  have HWR := Lib.hid (WReads.of_row hrow')
  have HB1 := Lib.hid hB1
  clear hRf hvO c0 B1 hb hB1 hrow hrow' hall
  by_cases hE : E = 0
  · subst hE
    obtain ⟨hf, rfl⟩ := hok rfl
    have hm := means_true w1 OR ra room l A1 c1 x h0 h1 (HR.out.below HB1.out) HWF.out (by omega) HWR.out hf
    unfold ValR.agg at hm
    clear hbad hok
    go_wp2_with fail
    refine hm.mono ?_
    rintro e w2 ⟨rfl, hb2⟩
    go_wp2
    go_ret
    exact ⟨rfl, below_then HB1.out hb2⟩
  · have hEb : (E != 0) = true := by rw [bne_iff_ne]; exact hE
    have hx := hbad hE
    subst hx
    clear hbad hok hE
    go_wp2
    go_ret
    exact ⟨rfl, HB1.out⟩
end Go.Proofs.YtejcbpbhhofhlaaDoor.Tm
