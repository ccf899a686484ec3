/- layer 13: All's iterator, by its contract. -/
import Derived.RangeFuncBox
import Derived.RangeFuncLeaves
import Derived.RangeFuncWrites
import Derived.RangeFuncCalls
import Derived.Shelf.Abstract
import Derived.OwnWalkIn
import Derived.TacticsInMore
import Derived.LoopNIn
import Derived.LoopIn
import Derived.Maps.AppendAt
import Derived.Test.YtofpbiadnbbaoaaIdE
import Derived.Test.YtofpbiadnbbaoaaIdH
namespace Go.Proofs.Ytofpbiadnbbaoaa.Ids
open Go.RowKit Go.Shelf
set_option linter.unusedVariables false
set_option linter.unusedSimpArgs false
attribute [local go_sem] Oper.semAt_some

theorem PidsAt.under {W W' : World} {b c n₀ : Nat} {l : List (Int × Bool)} (h : PidsAt W b c l) (hB : Below n₀ W W') (hb : b < n₀) (hc : c < n₀) : PidsAt W' b c l :=
  ⟨(hB.block b hb).trans h.top, (hB.block c hc).trans h.row, h.len⟩
theorem AbidesFrom.alloc {J : List Int → World → Prop} {B : Nat} (hJ : AbidesFrom B J) {s : List Int} {W : World} (h : J s W) (o : Obj) : J s (W.alloc o) :=
  hJ s W _ none h (World.grownBy_alloc _ _ none) (fun r e => by cases e)
/-- What a round of the body keeps: all below n₀, and block Bn. -/
structure KpB (n₀ Bn : Nat) (W W' : World) : Prop where
  low : Below n₀ W W'
  box : W'.heap[Bn]? = W.heap[Bn]?
theorem KpB.refl (n₀ Bn : Nat) (W : World) : KpB n₀ Bn W W := ⟨Below.refl _ _, rfl⟩
theorem KpB.trans {n₀ Bn : Nat} {A B C : World} (h : KpB n₀ Bn A B) (k : KpB n₀ Bn B C) : KpB n₀ Bn A C := ⟨h.low.trans k.low, k.box.trans h.box⟩
theorem KpB.cell {n₀ Bn : Nat} {A B : World} (h : KpB n₀ Bn A B) {v : Value} (hc : A.cell? ⟨Bn, 0, none⟩ = some v) : B.cell? ⟨Bn, 0, none⟩ = some v := (World.cell?_of_block (w := A) (a := ⟨Bn, 0, none⟩) h.box).trans hc
theorem kpB_t {n₀ Bn : Nat} {A B C : World} (h : KpB n₀ Bn A B) (k : KpB n₀ Bn B C) : KpB n₀ Bn A C := h.trans k
theorem kpB_b {n₀ Bn : Nat} {w : World} (hn : n₀ ≤ w.heap.size) (hB : Bn < w.heap.size) (W : World) (l : Nat) (o o' : Obj) (hl : w.heap.size ≤ l) (h : W.heap[l]? = some o) (h1 : o.isCells = false) (h2 : o.isWalk = false) : KpB n₀ Bn W (W.putObj l o') :=
  ⟨belowK_b hn W l o o' hl h h1 h2, World.putObj_heap_other (by omega)⟩
theorem below_alloc2 {W W' : World} {n₀ Bn : Nat} (h : KpB n₀ Bn W W') (h1 : n₀ ≤ W.heap.size) (hBW : Bn < W.heap.size) (h2 : W.heap.size ≤ W'.heap.size) (o : Obj) : KpB n₀ Bn W (W'.alloc o) :=
  ⟨h.low.alloc (Nat.le_trans h1 h2) o, (Below.heap_alloc _ _ _ (Nat.lt_of_lt_of_le hBW h2)).trans h.box⟩
theorem mkP_live {l : List (Int × Bool)} (hI : PInv l) (k : Nat) (hk : k < l.length) (ht : (l[k]).2 = true) : mkP (k : Int) (l[k]).1 = ((l[k]).1 * 64 + k + 1, 0) := by
  have h1 := hI.len
  exact mkP_yes (by omega) (by omega) (hI.pos _ (List.getElem_mem hk)) (hI.live _ (List.getElem_mem hk) ht)

set_option maxHeartbeats 1000000 in
set_option maxRecDepth 100000 in
theorem all1_in (n : Nat) (hn : 2 ≤ n) (l₀ Bn n₀ b c : Nat) (l : List (Int × Bool)) (hI : PInv l) (J Jx : List Int → World → Prop) (W : World)
    (hJ : AbidesFrom W.heap.size J)
    (hY : ∀ pre x W, J pre W → pre.length < 64 → YieldAt Fence.wide (n - 1) Try.prog l₀ #[.int .i64 x] W fun e W' =>
      (e = .returned (.bool true) ∧ J (pre ++ [x]) W' ∧ KpB n₀ Bn W W') ∨ (e = .returned (.bool false) ∧ Jx (pre ++ [x]) W'))
    (hBn : W.cell? ⟨Bn, 0, none⟩ = some (.pointer (some ⟨b, 0, none⟩))) (hlt : Bn < W.heap.size) (hP : PidsAt W b c l) (hb : b < n₀) (hc : c < n₀) (hn₀ : n₀ ≤ W.heap.size) (h0 : J [] W) :
    CallsIn Fence.wide n Try.prog 53 #[.func (.yield l₀) #[] #[], .pointer (some ⟨Bn, 0, none⟩)] W fun e W' => (∃ v, e = .returned v) ∧
      ((∃ ys, AllOf l ys ∧ J ys W') ∨ (∃ pre, Begin l pre ∧ Jx pre W')) := by
  have hF20 : Fence.wide.fn 20 := trivial
  have h1n : 1 ≤ n := by omega
  have h1n1 : 1 ≤ n - 1 := by omega
  have hlen := Lib.hid hI.len
  have HPos := Lib.hid hI.pos
  have hJ' := Lib.hid hJ
  have hY' := Lib.hid hY
  clear hJ hY
  refine callsIn_of_wp Try.func53 rfl trivial ?_ rfl
  simp only [Try.ntmps53, List.size_toArray, List.length_cons, List.length_nil, Nat.reduceAdd, Nat.reduceSub, Array.replicate_succ, Array.replicate_zero, List.push_toArray, List.append_toArray, List.nil_append, List.cons_append]
  gi_wp2
  gi_loopw [3] (fun p wr => ∃ (last : Int) (pre : List Int), p = .int .i64 last ∧ 0 ≤ last ∧ last ≤ 1099511627776 ∧ Mid l last pre ∧ J pre wr ∧ KpB n₀ Bn W wr ∧ W.heap.size ≤ wr.heap.size)
    (fun p _ => above l (intOf p))
  case atStart =>
    exact ⟨0, [], rfl, by omega, by omega, Mid.start HPos.out, h0, KpB.refl _ _ _, Nat.le_refl _⟩
  case round =>
    obtain ⟨last, pre, rfl, hl0, hl1, hM, hJs, hB, hsz⟩ := hrel
    have hP1 := hP.under hB.low hb hc
    have hbx := hB.cell hBn
    have ct := hP1.cell
    gi_wp2
    gi_loopw [4, 16] (fun v i w2 => ∃ (k : Nat) (x : Int), i = .int .i64 k ∧ k ≤ 64 ∧ v = .int .i64 x ∧ Hid (Best l last k x) ∧ Hid (J pre w2) ∧ KpB n₀ Bn W w2 ∧ W.heap.size ≤ w2.heap.size ∧ x ≤ 1099511627776) (fun v i w2 => 64 - (intOf i).toNat)
    case atStart => exact ⟨0, 0, rfl, by omega, rfl, Best.start l last, hJs, hB, hsz, by omega⟩
    case round =>
      obtain ⟨k, x, rfl, hk, rfl, hBest, hJ2, hB2, hsz2, hx⟩ := hrel
      have hP2 := hP.under hB2.low hb hc
      have hbx2 := hB2.cell hBn
      have ct2 := hP2.cell
      by_cases hkk : k < 64
      · have hkl : k < l.length := by rw [hlen.out]; exact hkk
        have c0 := hP2.gen k hkl
        have c1 := hP2.taken k hkl
        have hlc := hP2.ltc
        have hg := hI.pos _ (List.getElem_mem hkl)
        have hm : (l[k]).2 = true → mkP (k : Int) (l[k]).1 = ((l[k]).1 * 64 + k + 1, 0) := mkP_live hI k hkl
        have hg2 := hI.live _ (List.getElem_mem hkl)
        have hskip := fun e => Best.skip hBest hkl e
        have htake := fun h1 h2 h3 => Best.take HPos.out hBest hkl h1 h2 h3
        generalize hgt : l[k] = p at c0 c1 hg hm hg2 hskip htake
        clear hgt
        obtain ⟨g, t⟩ := p
        simp only at c0 c1 hg hm hg2 hskip htake
        have HM := Lib.hid hm
        have HS := Lib.hid hskip
        have HT := Lib.hid htake
        have HG := Lib.hid hg2
        clear hm hskip htake hg2
        cases t with
        | false =>
          gi_wp2_with (gi_at_call 20; refine (callsIn_wide.2 (make_any _ _ _)).mono ?_; rintro e w' ⟨rfl, rfl⟩)
          go_roundw
          case rel => exact ⟨k + 1, x, by go_num, by omega, rfl, HS.out (.inl trivial), AbidesFrom.alloc hJ'.out hJ2 _, below_alloc2 hB2 hn₀ hlt hsz2 _, by simp; omega, hx⟩
          case measure => simp [intOf]; omega
        | true =>
          have hg3 := HG.out rfl
          by_cases hlast : g * 64 + k + 1 ≤ last
          · gi_wp2_with (gi_at_call 20; refine (callsIn_wide.2 (make_any _ _ _)).mono ?_; rintro e w' ⟨rfl, rfl⟩; rw [HM.out rfl])
            go_roundw
            case rel => exact ⟨k + 1, x, by go_num, by omega, rfl, HS.out (.inr (.inl hlast)), AbidesFrom.alloc hJ'.out hJ2 _, below_alloc2 hB2 hn₀ hlt hsz2 _, by simp; omega, hx⟩
            case measure => simp [intOf]; omega
          · by_cases hx0 : x = 0
            · subst hx0
              gi_wp2_with (gi_at_call 20; refine (callsIn_wide.2 (make_any _ _ _)).mono ?_; rintro e w' ⟨rfl, rfl⟩; rw [HM.out rfl])
              go_roundw
              case rel => exact ⟨k + 1, _, by go_num, by omega, rfl, HT.out trivial (by omega) (.inl trivial), AbidesFrom.alloc hJ'.out hJ2 _, below_alloc2 hB2 hn₀ hlt hsz2 _, by simp; omega, by omega⟩
              case measure => simp [intOf]; omega
            · by_cases hlx : g * 64 + k + 1 < x
              · gi_wp2_with (gi_at_call 20; refine (callsIn_wide.2 (make_any _ _ _)).mono ?_; rintro e w' ⟨rfl, rfl⟩; rw [HM.out rfl])
                go_roundw
                case rel => exact ⟨k + 1, _, by go_num, by omega, rfl, HT.out trivial (by omega) (.inr hlx), AbidesFrom.alloc hJ'.out hJ2 _, below_alloc2 hB2 hn₀ hlt hsz2 _, by simp; omega, by omega⟩
                case measure => simp [intOf]; omega
              · have hlx' : x ≤ g * 64 + k + 1 := by omega
                have hlb : decide (g * 64 + k + 1 < x) = false := decide_eq_false hlx
                have hxb : (x == 0) = false := beq_eq_false_iff_ne.2 hx0
                clear hlx
                gi_wp2_with (gi_at_call 20; refine (callsIn_wide.2 (make_any _ _ _)).mono ?_; rintro e w' ⟨rfl, rfl⟩; rw [HM.out rfl])
                go_roundw
                case rel => exact ⟨k + 1, x, by go_num, by omega, rfl, HS.out (.inr (.inr ⟨hx0, by omega⟩)), AbidesFrom.alloc hJ'.out hJ2 _, below_alloc2 hB2 hn₀ hlt hsz2 _, by simp; omega, hx⟩
                case measure => simp [intOf]; omega
      · obtain rfl : k = 64 := by omega
        by_cases hx0 : x = 0
        · subst hx0
          gi_wp2
          refine ⟨fun _ h => (by cases h), ?_⟩
          gi_wp2
          refine bodyPost_ret (results_none rfl _ _ _) rfl ?_
          exact ⟨⟨_, rfl⟩, .inl ⟨pre, hM.done hBest, hJ2⟩⟩
        · have hstep := Lib.hid (hM.step hBest hx0)
          have hlt2 := Lib.hid (hM.lt hBest hx0)
          have hxp : 0 ≤ x := by
            have := hBest.is.resolve_left hx0
            omega
          obtain ⟨fn, tmps, assign, body, hy, hR⟩ := hY'.out pre x wr hJ2 hlt2.out.1
          gi_wp2
          refine hR.mono ?_
          rintro e W3 (⟨rfl, hJ3, hk3⟩ | ⟨rfl, hJx3⟩)
          · gi_wp2
            go_roundw
            case rel => exact ⟨x, pre ++ [x], rfl, hxp, hx, hstep.out, hJ3, hB2.trans hk3, Nat.le_trans hsz2 hk3.low.size⟩
            case measure => simp only [intOf]; exact hlt2.out.2
          · gi_wp2
            refine bodyPost_ret (results_none rfl _ _ _) rfl ?_
            exact ⟨⟨_, rfl⟩, .inr ⟨pre ++ [x], hstep.out.beg, hJx3⟩⟩

/-- The function value that All hands back, over a table in memory. -/
theorem all_stops (n : Nat) (hn : 2 ≤ n) (Bn n₀ b c : Nat) (l : List (Int × Bool)) (hI : PInv l) (w : World)
    (hBn : w.cell? ⟨Bn, 0, none⟩ = some (.pointer (some ⟨b, 0, none⟩))) (hlt : Bn < w.heap.size) (hP : PidsAt w b c l) (hb : b < n₀) (hc : c < n₀) (hn₀ : n₀ ≤ w.heap.size) :
    SeqStopsK Fence.wide n Try.prog 53 #[.pointer (some ⟨Bn, 0, none⟩)] (fun x : Int => #[Value.int .i64 x]) (KpB n₀ Bn) (AllOf l) (Begin l) 64 w := fun l₀ J Jx W hW hJ _ hY h0 =>
  all1_in n hn l₀ Bn n₀ b c l hI J Jx W hJ hY ((hW.cell (p := ⟨Bn, 0, none⟩) hlt).trans hBn) (Nat.lt_of_lt_of_le hlt hW.size) (hP.below hW) hb hc (Nat.le_trans hn₀ hW.size) h0
set_option maxHeartbeats 1000000 in
theorem all1_nil (n : Nat) (hn : 2 ≤ n) (l₀ Bn : Nat) (J : List Int → World → Prop) (W : World) (hBn : W.cell? ⟨Bn, 0, none⟩ = some (.pointer none)) (h0 : J [] W) :
    CallsIn Fence.wide n Try.prog 53 #[.func (.yield l₀) #[] #[], .pointer (some ⟨Bn, 0, none⟩)] W fun e W' => (∃ v, e = .returned v) ∧ J [] W' := by
  refine callsIn_of_wp Try.func53 rfl trivial ?_ rfl
  simp only [Try.ntmps53, List.size_toArray, List.length_cons, List.length_nil, Nat.reduceAdd, Nat.reduceSub, Array.replicate_succ, Array.replicate_zero, List.push_toArray, List.append_toArray, List.nil_append, List.cons_append]
  gi_wp2
  refine bodyPost_ret (results_none rfl _ _ _) rfl ?_
  exact ⟨⟨_, rfl⟩, h0⟩
theorem nil_stops (n : Nat) (hn : 2 ≤ n) (Bn n₀ : Nat) (w : World) (hBn : w.cell? ⟨Bn, 0, none⟩ = some (.pointer none)) (hlt : Bn < w.heap.size) :
    SeqStopsK Fence.wide n Try.prog 53 #[.pointer (some ⟨Bn, 0, none⟩)] (fun x : Int => #[Value.int .i64 x]) (KpB n₀ Bn) (fun xs => xs = []) (fun _ => False) 64 w := fun l₀ J Jx W hW hJ _ hY h0 =>
  (all1_nil n hn l₀ Bn J W ((hW.cell (p := ⟨Bn, 0, none⟩) hlt).trans hBn) h0).mono fun e W' ⟨he, hJ⟩ => ⟨he, .inl ⟨[], rfl, hJ⟩⟩
theorem all_in (n : Nat) (p0 : Option Addr) (w : World) :
    CallsIn Fence.wide n Try.prog 52 #[.pointer p0] w fun e w' => e = .returned (.func (.func 53) #[] #[.pointer (some ⟨w.heap.size, 0, none⟩)]) ∧ w' = w.alloc (.cells #[.pointer p0] 50) := by
  refine callsIn_of_wp Try.func52 rfl trivial ?_ rfl
  simp only [Try.ntmps52, List.size_toArray, List.length_cons, List.length_nil, Nat.reduceAdd, Nat.reduceSub, Array.replicate_succ, Array.replicate_zero, List.push_toArray, List.append_toArray, List.nil_append, List.cons_append]
  gi_wp2
  go_ret
  exact ⟨rfl, rfl⟩
end Go.Proofs.Ytofpbiadnbbaoaa.Ids
