/- Rows of terms that are sorted in place: swapRange, rotate. -/
import Derived.Test.YtfeaolnklooanaaDoorSymP
import Derived.Test.YtfeaolnklooanaaDoorBase
import Derived.Deep.AppendLies
import Derived.RegionTactic
import Derived.ChangeAlike
import Derived.Handy
namespace Go.Proofs.YtfeaolnklooanaaDoor.Tm
open Go.RowKit Go.Proofs.YtfeaolnklooanaaDoor.Sx
set_option linter.unusedVariables false
set_option linter.unusedSimpArgs false

/-- Nothing has changed but the row in block b, whose make stays. -/
structure Gro (b : Nat) (w w' : World) : Prop where
  by_ : w.grownBy w' (some b)
  shape : ∀ cur t fr, w.heap[b]? = some (.cells cur t fr) → ∃ cur', w'.heap[b]? = some (.cells cur' t fr) ∧ cur'.size = cur.size
theorem Gro.size {b : Nat} {w w' : World} (h : Gro b w w') : w.heap.size ≤ w'.heap.size := h.by_.size
theorem Gro.refl (b : Nat) (w : World) : Gro b w w := ⟨World.grownBy.refl w _, fun cur t fr h => ⟨cur, h, rfl⟩⟩
theorem Gro.trans {b : Nat} {u v w : World} (h : Gro b u v) (k : Gro b v w) : Gro b u w := ⟨h.by_.trans k.by_, fun cur t fr e => by
  obtain ⟨c1, e1, s1⟩ := h.shape cur t fr e
  obtain ⟨c2, e2, s2⟩ := k.shape c1 t fr e1
  exact ⟨c2, e2, s2.trans s1⟩⟩
theorem grown_setS {a w : World} {b : Nat} (h : Gro b a w) (i : Nat) (v : Value) : Gro b a (w.setCell ⟨b, i, none⟩ v) :=
  h.trans ⟨⟨rfl, rfl, rfl, by simp [World.setCell], fun k _ hk => Below.heap_setCell _ _ _ _ (fun e => hk (by simp [e]))⟩, fun cur t fr e => by
    have hlt := (Array.getElem?_eq_some_iff.1 e).1
    simp only [World.setCell, Array.getElem?_modify, ↓reduceIte, e, Option.map_some]
    simp⟩
theorem grown_belowS {a w w' : World} {b : Nat} (h : Gro b a w) (hb : Below w.heap.size w w') : Gro b a w' :=
  h.trans ⟨⟨hb.os, hb.tape, hb.output, hb.size, fun i hi _ => hb.block i hi⟩, fun cur t fr e => ⟨cur, (hb.block b (Array.getElem?_eq_some_iff.1 e).1).trans e, rfl⟩⟩
theorem grown_drewNS {a w : World} {b : Nat} (k : Nat) (h : Gro b a w) : Gro b a (w.drewN k) := ⟨⟨h.by_.os, h.by_.tape, h.by_.output, h.by_.size, h.by_.block⟩, h.shape⟩
theorem grown_drewS {a w : World} {b : Nat} (h : Gro b a w) : Gro b a w.drew := ⟨⟨h.by_.os, h.by_.tape, h.by_.output, h.by_.size, h.by_.block⟩, h.shape⟩
/-- An element of a row of terms. -/
structure El where
  A : Option Addr
  l : List CellD
  c : Nat
def El.val (y : El) : Value := .slice y.A y.l.length y.c
/-- The row in block b holds d. -/
def RowD (W : World) (b n : Nat) (d : Nat → El) : Prop := ∀ i, i < n → W.cell? ⟨b, i, none⟩ = some (d i).val ∧ W.frozen? ⟨b, i, none⟩ = false
theorem RowD.below {W V : World} {b n : Nat} {d : Nat → El} (h : RowD W b n d) (hb : b < W.heap.size) (hB : Below W.heap.size W V) : RowD V b n d := fun i hi =>
  ⟨(hB.cell (p := ⟨b, i, none⟩) hb).trans (h i hi).1, (hB.frozen (p := ⟨b, i, none⟩) hb).trans (h i hi).2⟩
def upd (d : Nat → El) (i : Nat) (y : El) : Nat → El := fun k => if k = i then y else d k
theorem RowD.set {W : World} {b n : Nat} {d : Nat → El} (h : RowD W b n d) {i : Nat} (y : El) : RowD (W.setCell ⟨b, i, none⟩ y.val) b n (upd d i y) := fun k hk => by
  refine ⟨?_, by rw [World.frozen?_setCell]; exact (h k hk).2⟩
  by_cases e : k = i
  · subst e
    exact (World.cell?_setCell_same _ _ _ (h k hk).1).trans (by simp [upd])
  · refine (World.cell?_setCell_other _ _ _ _ (fun q => e (by cases q; rfl))).trans ?_
    simp only [upd, if_neg e]
    exact (h k hk).1
theorem RowD.drew {W : World} {b n : Nat} {d : Nat → El} (h : RowD W b n d) : RowD W.drew b n d := h
theorem swp_upd (d : Nat → El) (i j : Nat) : swp d i j = upd (upd d j (d i)) i (d j) := by
  funext k; simp [swp, upd]
theorem swp_upd2 (d : Nat → El) {i j : Nat} (h : i ≠ j) : swp d i j = upd (upd d i (d j)) j (d i) := by
  funext k; simp only [swp, upd]; repeat' split
  all_goals first | rfl | (exfalso; omega)
theorem RowD.swap {W : World} {b n i j : Nat} {d : Nat → El} (h : RowD W b n d) (hij : i ≠ j) {y z : El} (hy : d i = y) (hz : d j = z) : RowD ((W.setCell ⟨b, i, none⟩ z.val).setCell ⟨b, j, none⟩ y.val) b n (swp d i j) := by
  rw [swp_upd2 d hij, hy, hz]
  exact (h.set z).set y
/-- k elements from x on exchanged with those from y on. -/
def swpR (d : Nat → El) (x y k : Nat) : Nat → El := fun t => if x ≤ t ∧ t < x + k then d (t + y - x) else if y ≤ t ∧ t < y + k then d (t + x - y) else d t
theorem swpR_zero (d : Nat → El) (x y : Nat) : swpR d x y 0 = d := by
  funext t; simp only [swpR]; repeat' split
  all_goals first | rfl | (exfalso; omega)
theorem swpR_step (d : Nat → El) {x y k : Nat} (h : x + k < y) : swp (swpR d x y k) (x + k) (y + k) = swpR d x y (k + 1) := by
  funext t; simp only [swpR, swp]; repeat' split
  all_goals first | rfl | (exfalso; omega) | (congr 1; omega)
set_option maxRecDepth 100000 in
set_option maxHeartbeats 4000000 in
theorem swapRange_any (F : Value) (b n cap x y k : Nat) (d : Nat → El) (w : World) (hrow : RowD w b n d) (hxy : x + k ≤ y) (hy : y + k ≤ n) (hn : n ≤ 10000000000000) (hcap : n ≤ cap) :
    Calls Tryd.prog 73 #[.slice (some ⟨b, 0, none⟩) n cap, .int .i64 x, .int .i64 y, .int .i64 k, F] w fun e w' => e = .returned (.tuple #[]) ∧ RowD w' b n (swpR d x y k) ∧ Gro b w w' := by
  have R0 := Lib.hid (show RowD w b n (swpR d x y 0) by rw [swpR_zero]; exact hrow)
  clear hrow
  go_enter Tryd.func73, Tryd.ntmps73
  go_wp2
  go_loopw [10] (fun i wr => ∃ j : Nat, j ≤ k ∧ i = .int .i64 j ∧ Hid (RowD wr b n (swpR d x y j)) ∧ Hid (Gro b w wr)) (fun i wr => k - (intOf i).toNat)
  case atStart => exact ⟨0, Nat.zero_le _, rfl, R0, Gro.refl b w⟩
  case round =>
    clear R0
    obtain ⟨j, hj, rfl, hR, hG⟩ := hrel
    by_cases hlt : j < k
    · have h1 := hR.out (x + j) (by omega)
      have h2 := hR.out (y + j) (by omega)
      obtain ⟨v1, e1⟩ : ∃ v, swpR d x y j (x + j) = v := ⟨_, rfl⟩
      obtain ⟨v2, e2⟩ : ∃ v, swpR d x y j (y + j) = v := ⟨_, rfl⟩
      rw [e1] at h1
      rw [e2] at h2
      obtain ⟨c1, f1⟩ := h1
      obtain ⟨c2, f2⟩ := h2
      rcases v1 with ⟨A1, l1, k1⟩
      rcases v2 with ⟨A2, l2, k2⟩
      simp only [El.val] at c1 c2
      have hk1 : (j : Int) < (k : Int) := by omega
      have a1 : IntKind.i64.wrap ((x : Int) + (j : Int)) = (x : Int) + (j : Int) := by rw [IntKind.wrap_i64]; omega
      have a2 : IntKind.i64.wrap ((y : Int) + (j : Int)) = (y : Int) + (j : Int) := by rw [IntKind.wrap_i64]; omega
      have b1 : (0 : Int) ≤ (x : Int) + (j : Int) := by omega
      have b2 : (0 : Int) ≤ (y : Int) + (j : Int) := by omega
      have d1 : (x : Int) + (j : Int) < (n : Int) := by omega
      have d2 : (y : Int) + (j : Int) < (n : Int) := by omega
      have t1 : ((x : Int) + (j : Int)).toNat = x + j := by omega
      have t2 : ((y : Int) + (j : Int)).toNat = y + j := by omega
      have ne : ¬ x + j = y + j := by omega
      have ne2 : ¬ y + j = x + j := by omega
      have HE := Lib.hid (⟨e1, e2⟩ : swpR d x y j (x + j) = ⟨A1, l1, k1⟩ ∧ swpR d x y j (y + j) = ⟨A2, l2, k2⟩)
      clear e1 e2
      go_wp2
      go_region
      have HW := Lib.hid (show RowD ((wr.setCell ⟨b, x + j, none⟩ (.slice A2 l2.length k2)).setCell ⟨b, y + j, none⟩ (.slice A1 l1.length k1)).drew b n (swpR d x y (j + 1)) by
        rw [← swpR_step d (by omega)]
        exact (hR.out.swap ne HE.out.1 HE.out.2).drew)
      have HG := Lib.hid (grown_drewS (grown_setS (grown_setS hG.out (x + j) (.slice A2 l2.length k2)) (y + j) (.slice A1 l1.length k1)))
      clear c1 c2 f1 f2
      go_wp2
      go_roundw
      case rel => exact ⟨j + 1, by omega, by go_num, HW, HG⟩
      case measure => simp [intOf]; omega
    · go_wp2
      obtain rfl : j = k := by omega
      go_end0
      exact ⟨rfl, hR.out, hG.out⟩
theorem swapRange_at (F : Value) (b n cap x y k : Nat) (X Y K : Int) (hX : X = x) (hY : Y = y) (hK : K = k) (d : Nat → El) (w : World) (hrow : RowD w b n d) (hxy : x + k ≤ y) (hy : y + k ≤ n) (hn : n ≤ 10000000000000) (hcap : n ≤ cap) :
    Calls Tryd.prog 73 #[.slice (some ⟨b, 0, none⟩) n cap, .int .i64 X, .int .i64 Y, .int .i64 K, F] w fun e w' => e = .returned (.tuple #[]) ∧ RowD w' b n (swpR d x y k) ∧ Gro b w w' := by
  subst hX hY hK
  exact swapRange_any F b n cap x y k d w hrow hxy hy hn hcap
theorem rot_gt (d : Nat → El) {m i j : Nat} (hij : j < i) (hi : i ≤ m) : rot (swpR d (m - i) m j) (m - (i - j)) m (m + j) = rot d (m - i) m (m + j) := by
  funext t; simp only [rot, swpR]; repeat' split
  all_goals first | rfl | (exfalso; omega) | (congr 1; omega)
theorem rot_lt (d : Nat → El) {m i j : Nat} (hij : i < j) (hi : i ≤ m) : rot (swpR d (m - i) (m + j - i) i) (m - i) m (m + (j - i)) = rot d (m - i) m (m + j) := by
  funext t; simp only [rot, swpR]; repeat' split
  all_goals first | rfl | (exfalso; omega) | (congr 1; omega)
theorem rot_eq (d : Nat → El) {m i : Nat} (hi : i ≤ m) : swpR d (m - i) m i = rot d (m - i) m (m + i) := by
  funext t; simp only [rot, swpR]; repeat' split
  all_goals first | rfl | (exfalso; omega) | (congr 1; omega)
set_option maxRecDepth 100000 in
set_option maxHeartbeats 4000000 in
theorem rotate_any (F : Value) (b n cap a m e0 : Nat) (d : Nat → El) (w : World) (hrow : RowD w b n d) (ha : a < m) (hm : m < e0) (he : e0 ≤ n) (hn : n ≤ 10000000000000) (hcap : n ≤ cap) :
    Calls Tryd.prog 70 #[.slice (some ⟨b, 0, none⟩) n cap, .int .i64 a, .int .i64 m, .int .i64 e0, F] w fun e w' => e = .returned (.tuple #[]) ∧ RowD w' b n (rot d a m e0) ∧ Gro b w w' := by
  have R0 := Lib.hid hrow
  clear hrow
  have w1 : IntKind.i64.wrap ((m : Int) - (a : Int)) = (m : Int) - (a : Int) := by rw [IntKind.wrap_i64]; omega
  have w2 : IntKind.i64.wrap ((e0 : Int) - (m : Int)) = (e0 : Int) - (m : Int) := by rw [IntKind.wrap_i64]; omega
  go_enter Tryd.func70, Tryd.ntmps70
  go_wp2
  go_loopw [10, 11] (fun i j wr => ∃ (p q : Nat) (cur : Nat → El), i = .int .i64 p ∧ j = .int .i64 q ∧ 0 < p ∧ 0 < q ∧ a + p ≤ m ∧ m + q ≤ e0 ∧ Hid (rot cur (m - p) m (m + q) = rot d a m e0) ∧ Hid (RowD wr b n cur) ∧ Hid (Gro b w wr)) (fun i j wr => (intOf i).toNat + (intOf j).toNat)
  case atStart =>
    refine ⟨m - a, e0 - m, d, by congr 1; omega, by congr 1; omega, by omega, by omega, by omega, by omega, ?_, R0, Gro.refl b w⟩
    show rot d (m - (m - a)) m (m + (e0 - m)) = rot d a m e0
    rw [show m - (m - a) = a by omega, show m + (e0 - m) = e0 by omega]
  case round =>
    clear R0
    obtain ⟨p, q, cur, rfl, rfl, hp, hq, hpm, hqe, hE, hR, hG⟩ := hrel
    have x1 : IntKind.i64.wrap ((m : Int) - (p : Int)) = (m : Int) - (p : Int) := by rw [IntKind.wrap_i64]; omega
    have x2 : IntKind.i64.wrap ((p : Int) - (q : Int)) = (p : Int) - (q : Int) := by rw [IntKind.wrap_i64]; omega
    have x3 : IntKind.i64.wrap ((m : Int) + (q : Int)) = (m : Int) + (q : Int) := by rw [IntKind.wrap_i64]; omega
    have x4 : IntKind.i64.wrap ((m : Int) + (q : Int) - (p : Int)) = (m : Int) + (q : Int) - (p : Int) := by rw [IntKind.wrap_i64]; omega
    have x5 : IntKind.i64.wrap ((q : Int) - (p : Int)) = (q : Int) - (p : Int) := by rw [IntKind.wrap_i64]; omega
    rcases Nat.lt_trichotomy q p with h | h | h
    · have hb : ((p : Int) != (q : Int)) = true := by rw [bne_iff_ne]; omega
      have hlt : (q : Int) < (p : Int) := by omega
      go_wp2_with fail
      refine (swapRange_at F b n cap (m - p) m q _ _ _ (by omega) rfl rfl cur _ hR.out (by omega) (by omega) hn hcap).mono ?_
      rintro e w3 ⟨rfl, hR3, hg3⟩
      have HR3 := Lib.hid hR3
      have HG3 := Lib.hid (hG.out.trans hg3)
      have HE3 := Lib.hid ((rot_gt cur h (by omega)).trans hE.out)
      clear hR3 hg3
      go_wp2
      go_roundw
      case rel => exact ⟨p - q, q, _, by go_num, rfl, by omega, hq, by omega, by omega, HE3, HR3, HG3⟩
      case measure => simp [intOf]; omega
    · subst h
      have hb : ((q : Int) != (q : Int)) = false := by simp
      go_wp2_with fail
      refine (swapRange_at F b n cap (m - q) m q _ _ _ (by omega) rfl rfl cur _ hR.out (by omega) (by omega) hn hcap).mono ?_
      rintro e w3 ⟨rfl, hR3, hg3⟩
      have HR3 := Lib.hid (show RowD w3 b n (rot d a m e0) by rw [← hE.out, ← rot_eq cur (by omega)]; exact hR3)
      have HG3 := Lib.hid (hG.out.trans hg3)
      clear hR3 hg3
      go_wp2
      go_end0
      exact ⟨rfl, HR3.out, HG3.out⟩
    · have hb : ((p : Int) != (q : Int)) = true := by rw [bne_iff_ne]; omega
      have hlt : ¬ (q : Int) < (p : Int) := by omega
      go_wp2_with fail
      refine (swapRange_at F b n cap (m - p) (m + q - p) p _ _ _ (by omega) (by omega) rfl cur _ hR.out (by omega) (by omega) hn hcap).mono ?_
      rintro e w3 ⟨rfl, hR3, hg3⟩
      have HR3 := Lib.hid hR3
      have HG3 := Lib.hid (hG.out.trans hg3)
      have HE3 := Lib.hid ((rot_lt cur h (by omega)).trans hE.out)
      clear hR3 hg3
      go_wp2
      go_roundw
      case rel => exact ⟨p, q - p, _, rfl, by go_num, hp, by omega, by omega, by omega, HE3, HR3, HG3⟩
      case measure => simp [intOf]; omega
end Go.Proofs.YtfeaolnklooanaaDoor.Tm
