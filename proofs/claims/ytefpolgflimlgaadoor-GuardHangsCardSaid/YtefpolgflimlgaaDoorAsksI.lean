/- guard.Asks: the iterator; what the law's asks gathers. -/
import Derived.RangeFuncBox
import Derived.RangeFuncLeaves
import Derived.RangeFuncWrites
import Derived.RangeFuncCalls
import Derived.RangeFuncNested
import Derived.Shelf.Abstract
import Derived.OwnWalkIn
import Derived.TacticsInMore
import Derived.LoopNIn
import Derived.LoopIn
import Derived.Maps.AppendAt
import Derived.Test.YtefpolgflimlgaaDoorAsksR
import Derived.Test.YtefpolgflimlgaaDoorBools
namespace Go.Proofs.YtefpolgflimlgaaDoor.Tm
open Go.RowKit Go.Shelf
set_option linter.unusedVariables false
set_option linter.unusedSimpArgs false
attribute [local go_sem] Oper.semAt_some

/-- What has been asked behind j operands of a test. -/
def stepA (f : Int → Bool) (t : TestD) : Nat → Int → Bool
  | 0 => f
  | 1 => fun n => f n || regK 1 t.a n
  | _ => fun n => (f n || regK 1 t.a n) || regK 1 t.b n
theorem stepA_two {g : List TestD} {j : Nat} (h : j < g.length) : stepA (asksB (g.take j)) g[j] 2 = asksB (g.take (j + 1)) := by
  funext n
  rw [asksB_snoc h]
  exact Bool.or_assoc _ _ _
theorem assert_reg (a : CellD) (h : a.kind = 1) (W : World) : (Instr.typeAssert (.iface (opTy a) (aggC a)) 122 186 true).run Tryd.prog W = .ok (.tuple #[aggC a, .bool true]) W := by
  unfold opTy
  rw [if_pos h]; kernel_rfl
theorem assert_not (a : CellD) (h : ¬ a.kind = 1) (W : World) : (Instr.typeAssert (.iface (opTy a) (aggC a)) 122 186 true).run Tryd.prog W = .ok (.tuple #[.agg #[.int .i64 0, .int .i64 0, .string ⟨#[]⟩], .bool false]) W := by
  unfold opTy
  rw [if_neg h]
  by_cases h3 : a.kind = 3
  · rw [if_pos h3]; kernel_rfl
  rw [if_neg h3]
  by_cases h4 : a.kind = 4
  · rw [if_pos h4]; kernel_rfl
  rw [if_neg h4]
  by_cases h5 : a.kind = 5
  · rw [if_pos h5]; kernel_rfl
  rw [if_neg h5]; kernel_rfl
theorem pick_two (t : TestD) (W : World) : (Instr.index 197 (.agg #[.int .i64 t.a.kind, .int .i64 t.a.n, .string t.a.text, .int .i64 t.b.kind, .int .i64 t.b.n, .string t.b.text]) (.int .i64 0)).run Tryd.prog W = .ok (aggC t.a) W ∧
    (Instr.index 197 (.agg #[.int .i64 t.a.kind, .int .i64 t.a.n, .string t.a.text, .int .i64 t.b.kind, .int .i64 t.b.n, .string t.b.text]) (.int .i64 1)).run Tryd.prog W = .ok (aggC t.b) W := ⟨by kernel_rfl, by kernel_rfl⟩
set_option maxRecDepth 100000 in
set_option maxHeartbeats 4000000 in
theorem gasks_any (g : List TestD) (A : Option Addr) (c : Nat) (w : World) (hr : TReads w A g) (hl : g.length ≤ 1000000000000000) :
    Calls Tryd.prog 130 #[.slice A g.length c] w fun e w' => e = .returned (.func (.func 173) #[] #[.pointer (some ⟨w.heap.size, 0, none⟩)]) ∧ BoolsAt w' w.heap.size (asksB g) ∧ Below w.heap.size w w' := by
  have HR := Lib.hid hr
  clear hr
  go_enter Tryd.func130, Tryd.ntmps130
  go_wp2_with fail
  go_loopw [11] (fun i wr => ∃ j : Nat, j ≤ g.length ∧ i = .int .i64 j ∧ Below w.heap.size w wr ∧ Hid (BoolsAt wr w.heap.size (asksB (g.take j)))) (fun i wr => g.length - (intOf i).toNat)
  case atStart => exact ⟨0, Nat.zero_le _, rfl, below_one _ _, bools_new w (asksB [])⟩
  case round =>
    obtain ⟨j, hj, rfl, hB, hH⟩ := hrel
    by_cases hlt : j < g.length
    · obtain ⟨b, o, hA, ht⟩ := HR.out j hlt
      subst hA
      obtain ⟨q0, q1, q2, q3, q4, q5, q6⟩ := ht.below hB
      have hi1 : (j : Int) < (g.length : Int) := by omega
      have hi0 : (0 : Int) ≤ (j : Int) := Int.natCast_nonneg _
      have S2 := Lib.hid (stepA_two hlt)
      generalize asksB (g.take j) = f at *
      generalize g[j] = t at *
      clear ht
      have hBa := Lib.hid (below_alloc' hB (.cells #[.int .i64 t.op, .int .i64 t.a.kind, .int .i64 t.a.n, .string t.a.text, .int .i64 t.b.kind, .int .i64 t.b.n, .string t.b.text] 51))
      have hHa := Lib.hid (hH.out.below (below_one wr (.cells #[.int .i64 t.op, .int .i64 t.a.kind, .int .i64 t.a.n, .string t.a.text, .int .i64 t.b.kind, .int .i64 t.b.n, .string t.b.text] 51)))
      clear hH hB
      go_wp2_with fail
      generalize wr.alloc (.cells #[.int .i64 t.op, .int .i64 t.a.kind, .int .i64 t.a.n, .string t.a.text, .int .i64 t.b.kind, .int .i64 t.b.n, .string t.b.text] 51) = wo at *
      clear q0 q1 q2 q3 q4 q5 q6
      go_loopw [20] (fun i w2 => ∃ k : Nat, k ≤ 2 ∧ i = .int .i64 k ∧ Below w.heap.size w w2 ∧ Hid (BoolsAt w2 w.heap.size (stepA f t k))) (fun i w2 => 2 - (intOf i).toNat)
      case atStart => exact ⟨0, Nat.zero_le _, rfl, hBa.out, hHa⟩
      case round =>
        obtain ⟨k, hk, rfl, hB2, hH2⟩ := hrel
        by_cases hk2 : k < 2
        · obtain ⟨x, hix, hst⟩ : ∃ x : CellD, (∀ W, (Instr.index 197 (.agg #[.int .i64 t.a.kind, .int .i64 t.a.n, .string t.a.text, .int .i64 t.b.kind, .int .i64 t.b.n, .string t.b.text]) (.int .i64 k)).run Tryd.prog W = .ok (aggC x) W) ∧ (fun n => stepA f t k n || regK 1 x n) = stepA f t (k + 1) := by
            have : k = 0 ∨ k = 1 := by omega
            rcases this with rfl | rfl
            · exact ⟨t.a, fun W => (pick_two t W).1, rfl⟩
            · exact ⟨t.b, fun W => (pick_two t W).2, rfl⟩
          have HS := Lib.hid hst
          have HA := Lib.hid (hH2.out.below (below_one wr (.cells #[.int .i64 x.kind, .int .i64 x.n, .string x.text] 49)))
          have HBa := Lib.hid (below_alloc' hB2 (.cells #[.int .i64 x.kind, .int .i64 x.n, .string x.text] 49))
          clear hst hH2 hB2
          go_wp2_with fail
          refine (of_any x _).mono ?_
          rintro e w3 ⟨rfl, hb3⟩
          have hB3 := below_then HBa.out hb3
          have HA3 := Lib.hid (HA.out.below hb3)
          clear hb3 HA HBa hix
          by_cases h1 : x.kind = 1
          · have hta := assert_reg x h1
            have HA4 := Lib.hid (HA3.out.below (below_one w3 (.cells #[.int .i64 x.kind, .int .i64 x.n, .string x.text] 186)))
            have HB4 := Lib.hid (below_alloc' hB3 (.cells #[.int .i64 x.kind, .int .i64 x.n, .string x.text] 186))
            generalize opTy x = T at *
            by_cases h0 : 0 ≤ x.n
            · by_cases h16 : x.n < 16
              · obtain ⟨m, hm⟩ : ∃ m : Nat, x.n = m := ⟨x.n.toNat, by omega⟩
                have hm16 : m < 16 := by omega
                have hcm := HA4.out.cell hm16
                have hfm := HA4.out.free m
                have F := Lib.hid ((HA4.out.set_ hm16 h1 hm).congr HS.out)
                have FB := Lib.hid (HB4.out.setCell (p := ⟨w.heap.size, m, none⟩) (Nat.le_refl _) (.bool true))
                obtain ⟨xk, xn, xt⟩ := x
                simp only at hm h1
                subst hm h1
                clear HS HA3 HA4 HB4 hB3
                go_wp2
                go_roundw
                case rel => exact ⟨k + 1, by omega, by go_num, FB.out, F⟩
                case measure => simp [intOf]; omega
              · have F := Lib.hid ((HA4.out.same (k := 1) (x := x) (fun e => h16 e.2.2)).congr HS.out)
                clear HS HA3 HA4 h1 hB3
                go_wp2
                go_roundw
                case rel => exact ⟨k + 1, by omega, by go_num, HB4.out, F⟩
                case measure => simp [intOf]; omega
            · have F := Lib.hid ((HA4.out.same (k := 1) (x := x) (fun e => h0 e.2.1)).congr HS.out)
              clear HS HA3 HA4 h1 hB3
              go_wp2
              go_roundw
              case rel => exact ⟨k + 1, by omega, by go_num, HB4.out, F⟩
              case measure => simp [intOf]; omega
          · have hta := assert_not x h1
            have F := Lib.hid ((HA3.out.same (k := 1) (x := x) (fun e => h1 e.1)).congr HS.out)
            generalize opTy x = T at *
            clear HS HA3 h1
            go_wp2
            go_roundw
            case rel => exact ⟨k + 1, by omega, by go_num, hB3, F⟩
            case measure => simp [intOf]; omega
        · obtain rfl : k = 2 := by omega
          have F := Lib.hid (hH2.out.congr S2.out)
          clear hH2 S2
          go_wp2
          go_roundw
          case rel => exact ⟨j + 1, by omega, by go_num, hB2, F⟩
          case measure => simp [intOf]; omega
    · have hH2 := hH.out
      rw [List.take_of_length_le (by omega)] at hH2
      have HH := Lib.hid hH2
      clear hH hH2
      go_wp2
      go_ret
      exact ⟨rfl, HH.out, hB⟩
theorem asksTo_step {g : List TestD} {k : Nat} : asksTo g k <+: asksTo g (k + 1) := by
  cases h : asksB g (k : Int)
  · rw [asksTo_no h]; exact List.prefix_refl _
  · rw [asksTo_yes h]; exact List.prefix_append _ _
theorem asksTo_pre (g : List TestD) : ∀ (d k : Nat), k + d = 16 → asksTo g k <+: asksD g
  | 0, k, h => by
    obtain rfl : k = 16 := by omega
    exact List.prefix_refl _
  | d + 1, k, h => asksTo_step.trans (asksTo_pre g d (k + 1) (by omega))
theorem cells16 {W : World} {b : Nat} {f : Int → Bool} (h : BoolsAt W b f) :
    W.cell? ⟨b, 0, none⟩ = some (.bool (f 0)) ∧ W.cell? ⟨b, 1, none⟩ = some (.bool (f 1)) ∧ W.cell? ⟨b, 2, none⟩ = some (.bool (f 2)) ∧ W.cell? ⟨b, 3, none⟩ = some (.bool (f 3)) ∧ W.cell? ⟨b, 4, none⟩ = some (.bool (f 4)) ∧ W.cell? ⟨b, 5, none⟩ = some (.bool (f 5)) ∧ W.cell? ⟨b, 6, none⟩ = some (.bool (f 6)) ∧ W.cell? ⟨b, 7, none⟩ = some (.bool (f 7)) ∧
    W.cell? ⟨b, 8, none⟩ = some (.bool (f 8)) ∧ W.cell? ⟨b, 9, none⟩ = some (.bool (f 9)) ∧ W.cell? ⟨b, 10, none⟩ = some (.bool (f 10)) ∧ W.cell? ⟨b, 11, none⟩ = some (.bool (f 11)) ∧ W.cell? ⟨b, 12, none⟩ = some (.bool (f 12)) ∧ W.cell? ⟨b, 13, none⟩ = some (.bool (f 13)) ∧ W.cell? ⟨b, 14, none⟩ = some (.bool (f 14)) ∧ W.cell? ⟨b, 15, none⟩ = some (.bool (f 15)) :=
  ⟨h.cell (by omega), h.cell (by omega), h.cell (by omega), h.cell (by omega), h.cell (by omega), h.cell (by omega), h.cell (by omega), h.cell (by omega), h.cell (by omega), h.cell (by omega), h.cell (by omega), h.cell (by omega), h.cell (by omega), h.cell (by omega), h.cell (by omega), h.cell (by omega)⟩
abbrev lit16 (f : Int → Bool) : Value := .agg #[.bool (f 0), .bool (f 1), .bool (f 2), .bool (f 3), .bool (f 4), .bool (f 5), .bool (f 6), .bool (f 7), .bool (f 8), .bool (f 9), .bool (f 10), .bool (f 11), .bool (f 12), .bool (f 13), .bool (f 14), .bool (f 15)]
theorem index16 (f : Int → Bool) {n : Nat} (hn : n < 16) (W : World) : (Instr.index 148 (lit16 f) (.int .i64 (n : Int))).run Tryd.prog W = .ok (.bool (f (n : Int))) W := run_index_bools f n hn W
set_option maxRecDepth 100000 in
set_option maxHeartbeats 2000000 in
theorem asks1_in (n : Nat) (hn : 1 ≤ n) (l b n₀ : Nat) (g : List TestD) (J Jx : List Int → World → Prop)
    (hY : ∀ pre x W, J pre W → pre.length < 16 → YieldAt Fence.wide (n - 1) Tryd.prog l #[.int .i64 x] W fun e W' =>
      (e = .returned (.bool true) ∧ J (pre ++ [x]) W' ∧ Below n₀ W W') ∨ (e = .returned (.bool false) ∧ Jx (pre ++ [x]) W'))
    (W : World) (hb : BoolsAt W b (asksB g)) (h0 : J [] W) :
    CallsIn Fence.wide n Tryd.prog 173 #[.func (.yield l) #[] #[], .pointer (some ⟨b, 0, none⟩)] W fun e W' => (∃ v, e = .returned v) ∧ ((∃ ys, ys = asksD g ∧ J ys W') ∨ (∃ pre, pre <+: asksD g ∧ Jx pre W')) := by
  have HY := Lib.hid hY
  have HB := Lib.hid hb
  have HP := Lib.hid (asksTo_pre g)
  clear hY hb
  refine callsIn_of_wp Tryd.func173 rfl trivial ?_ rfl
  simp only [Tryd.ntmps173, List.size_toArray, List.length_cons, List.length_nil, Nat.reduceAdd, Nat.reduceSub, Array.replicate_succ, Array.replicate_zero, List.push_toArray, List.append_toArray, List.nil_append, List.cons_append]
  obtain ⟨c0, c1, c2, c3, c4, c5, c6, c7, c8, c9, c10, c11, c12, c13, c14, c15⟩ := cells16 HB.out
  gi_wp2
  clear c0 c1 c2 c3 c4 c5 c6 c7 c8 c9 c10 c11 c12 c13 c14 c15
  gi_loopw [6] (fun i wr => ∃ k : Nat, k ≤ 16 ∧ i = .int .i64 k ∧ Hid (J (asksTo g k) wr)) (fun i _ => 16 - (intOf i).toNat)
  case atStart => exact ⟨0, Nat.zero_le _, rfl, h0⟩
  case round =>
    obtain ⟨k, hk, rfl, hJs⟩ := hrel
    by_cases hlt : k < 16
    · have hix := index16 (asksB g) hlt
      cases hm : asksB g (k : Int)
      · have F := Lib.hid (asksTo_no hm)
        rw [hm] at hix
        clear hm
        gi_wp2
        refine ⟨fun _ h => (by cases h), ?_⟩
        gi_wp2
        go_roundw
        case rel => exact ⟨k + 1, by omega, by go_num, by rw [F.out]; exact hJs⟩
        case measure => simp [intOf]; omega
      · have F := Lib.hid (asksTo_yes hm)
        rw [hm] at hix
        clear hm
        have hle := asksTo_le g k
        obtain ⟨fn, tmps, assign, body, hy, hR⟩ := HY.out _ (k : Int) wr hJs.out (by omega)
        gi_wp2
        refine hR.mono ?_
        rintro e W3 (⟨rfl, hJ3, hk3⟩ | ⟨rfl, hJx3⟩)
        · have HJ3 := Lib.hid hJ3
          clear hJ3
          gi_wp2
          go_roundw
          case rel => exact ⟨k + 1, by omega, by go_num, by rw [F.out]; exact HJ3⟩
          case measure => simp [intOf]; omega
        · gi_wp2
          refine bodyPost_ret (results_none rfl _ _ _) rfl ?_
          exact ⟨⟨_, rfl⟩, .inr ⟨_, by rw [← F.out]; exact HP.out (15 - k) (k + 1) (by omega), hJx3⟩⟩
    · obtain rfl : k = 16 := by omega
      gi_wp2
      go_end0
      exact ⟨⟨_, rfl⟩, .inl ⟨_, rfl, hJs.out⟩⟩
theorem asks_stops (n : Nat) (hn : 1 ≤ n) (b n₀ : Nat) (g : List TestD) (w : World) (hb : BoolsAt w b (asksB g)) :
    SeqStopsK Fence.wide n Tryd.prog 173 #[.pointer (some ⟨b, 0, none⟩)] (fun x : Int => #[Value.int .i64 x]) (Below n₀) (fun ys => ys = asksD g) (fun pre => pre <+: asksD g) 16 w := fun l J Jx W hW _ _ hY h0 =>
  asks1_in n hn l b n₀ g J Jx hY W (hb.below hW) h0
theorem run_equalIn_func_nil {P : Program} (w : World) (d : Nat) {t : TypeId} {x y : Array TypeId} {z : Bool} (h : P.underlying t = some (.func x y z)) (fn : Fn) (first captured : Array Value) :
    (Op.equalIn (d + 1) t (.func fn first captured) .nilFunc).run P w = .ok false w := by
  simp [Op.equalIn, run_underlying h]
theorem run_eql_func_nil {P : Program} (w : World) {t : TypeId} {x y : Array TypeId} {z : Bool} (h : P.underlying t = some (.func x y z)) (fn : Fn) (first captured : Array Value) :
    (binOp .eql t (.func fn first captured) .nilFunc).run P w = .ok (.bool false) w := by
  simp only [binOp]
  simp [Op.equal, Op.maxDepth, run_equalIn_func_nil w 9999 h]
set_option maxRecDepth 100000 in
set_option maxHeartbeats 2000000 in
theorem asks_in (n : Nat) (hn : 5 ≤ n) (g : List TestD) (A : Option Addr) (c : Nat) (w : World) (hr : TReads w A g) (hl : g.length ≤ 1000000000000000) :
    CallsIn Fence.wide n Tryd.prog 70 #[.slice A g.length c] w fun e W' => ∃ v, e = .returned v ∧ W'.ownsRow w.heap.size 3 1 v (asksD g).length ((asksD g).map (Value.int .i64)) ∧ Below w.heap.size w W' := by
  have HR := Lib.hid (hr.below (below_one w (.cells #[.slice none 0 0] 74)))
  clear hr
  have h1 : 1 ≤ n := by omega
  have hF : Fence.wide.fn 130 := trivial
  obtain ⟨i0, hi, hz0, hz1, hz2⟩ := info_parts int_info
  refine callsIn_of_wp_marks Tryd.func70 rfl trivial ?_ rfl
  simp only [Tryd.ntmps70, List.size_toArray, List.length_cons, List.length_nil, Nat.reduceAdd, Nat.reduceSub, Array.replicate_succ, Array.replicate_zero, List.push_toArray, List.append_toArray, List.nil_append, List.cons_append]
  have heq := fun (W : World) fn first captured => run_eql_func_nil (P := Tryd.prog) W Tryd.underlying141 fn first captured
  gi_wp2_with (gi_at_call 130; refine (callsIn_wide.2 (gasks_any g A c _ HR.out hl)).mono ?_; rintro e w' ⟨rfl, hA, hb⟩)
  have hA2 : BoolsAt w' (w.heap.size + 1) (asksB g) := by rwa [World.size_alloc] at hA
  have hseq := asks_stops (n - 1) (by omega) (w.heap.size + 1) w.heap.size g w' hA2
  have hsz : w.heap.size + 1 ≤ w'.heap.size := by have := hb.size; rwa [World.size_alloc] at this
  have bO := Boxed.new w 74 (.slice none 0 0)
  have bO2 : Boxed w' w.heap.size 74 (.slice none 0 0) := (hb.block _ bO.lt).trans bO
  have hB0 := below_then (below_one w (.cells #[.slice none 0 0] 74)) hb
  clear heq hA hb bO
  refine wpIn_rangeFunc_ownG rfl h1 (gf := 173) (lb := #[.pointer (some ⟨w.heap.size + 1, 0, none⟩)]) rfl trivial (enters_of Tryd.func173 (by kernel_rfl) rfl)
    hseq belowK_t (belowK_b (by omega)) (Below.refl _ _) (fun _ => rfl)
    (fun pre W => (∃ v, Boxed W w.heap.size 74 v ∧ W.ownsRow w.heap.size 3 1 v pre.length (pre.map (Value.int .i64)) ∧ True) ∧ Below w.heap.size w W)
    (fun cd pre W => False)
    (OwnFrom.and (Own.from (holdsRow_own w.heap.size w.heap.size 74 3 1 (fun (pre : List Int) => pre.length) (fun (pre : List Int) => pre.map (Value.int .i64)) (fun _ _ => True)) _) (ownFrom_below (Nat.le_refl _) (by omega)))
    (fun cd => ownFrom_pure _ _)
    ⟨⟨_, bO2, World.ownsRow_nil _ _ _ _, trivial⟩, hB0⟩
    (fun x => { tmps := #[.slice A g.length c, undef, .slice none 0 0, .pointer (some ⟨w.heap.size, 0, none⟩), .func (.func 173) #[] #[.pointer (some ⟨w.heap.size + 1, 0, none⟩)], .int .i64 x, .slice A g.length c,
        .func (.func 173) #[] #[.pointer (some ⟨w.heap.size + 1, 0, none⟩)], .func (.func 173) #[] #[.pointer (some ⟨w.heap.size + 1, 0, none⟩)], .bool false, .func (.func 173) #[] #[.pointer (some ⟨w.heap.size + 1, 0, none⟩)], .int .i64 x, undef, undef, undef, undef, undef], defers := [] }) ?assign ?body ?done ?stop
  case assign =>
    intro l x W K hK
    gi_wp2
    exact hK
  case body =>
    rintro l₀ pre x W ⟨⟨v, hv, hrow, _⟩, hB⟩ hlt
    have hc := hv.cell
    gi_wp2_with (gi_at_builtin; refine wpListIn_append_own _ rfl _ _ 74 rfl w.heap.size 3 i0 (.int .i64 0) 1 8 Tryd.underlying74 hi hz0 hz1 hz2 rfl (by decide) _ _ _ rfl (hrow.alloc _) ⟨W.heap.size, 0, none⟩ 1 1 [.int .i64 x] rfl rfl (cell_one_new _ _ _) (by simp [Value.oneCell']) (by unfold maxLen; omega) (by omega) (by have := hB.size; simp; omega) ?_; intro v' w1 hown' hgrow _; obtain ⟨g', cap', rfl⟩ := ownsRow_succ hown'; obtain ⟨hv1, hv2, hr2, hk2, hb2⟩ := hv.appended (by decide) hrow hB.size (by omega) hown' hgrow; have hc1 := hv1.cell; have hf1 := hv1.frozen)
    exact ⟨hk2.from _, hb2, ⟨_, hv2, by simpa using hr2, trivial⟩, hB.trans hb2⟩
  case done =>
    rintro D ys W hD rfl ⟨⟨v, hv, hrow, _⟩, hB⟩ hK
    have hc := hv.cell
    gi_wp2
    refine ⟨by simp, .inl ⟨_, _, rfl, run_takeDeferred hK, ?_⟩⟩
    exact ⟨_, results_tmp rfl _ _ _, v, rfl, ownsRow_putObj hrow _ hK rfl, hB.trans (belowK_b (w := w) (Nat.le_refl _) W D _ _ (by omega) hK rfl rfl)⟩
  case stop =>
    rintro D cd pre W hD hBeg hF
    exact hF.elim
theorem asks_any (g : List TestD) (A : Option Addr) (c : Nat) (w : World) (hr : TReads w A g) (hl : g.length ≤ 1000000000000000) :
    Calls Tryd.prog 70 #[.slice A g.length c] w fun e w' => ∃ A' c', e = .returned (.slice A' (asksD g).length c') ∧ IntsAt w' w.heap.size (.slice A' (asksD g).length c') (asksD g) ∧ Below w.heap.size w w' :=
  (callsIn_wide.1 (asks_in 6 (by omega) g A c w hr hl)).mono fun e w' ⟨v, he, hr, hB⟩ => by
    obtain ⟨A', c', rfl⟩ := row_slice hr
    exact ⟨A', c', he, hr, hB⟩
end Go.Proofs.YtefpolgflimlgaaDoor.Tm
