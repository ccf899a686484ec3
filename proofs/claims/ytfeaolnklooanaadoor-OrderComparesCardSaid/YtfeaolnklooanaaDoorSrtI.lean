/- Rows of terms that are sorted in place: insertion sort. -/
import Derived.Test.YtfeaolnklooanaaDoorSrtW
import Derived.Test.YtfeaolnklooanaaDoorEIter
import Derived.Deep.RegionHeld3
import Derived.BigQuiet
import Derived.LoopN
namespace Go.Proofs.YtfeaolnklooanaaDoor.Tm
open Go.RowKit Go.Proofs.YtfeaolnklooanaaDoor.Sx
set_option linter.unusedVariables false
set_option linter.unusedSimpArgs false

/-- What is asked of an element: its cells lie aside of the row. -/
def EOk (w : World) (b : Nat) (y : El) : Prop := Reads w y.A y.l ∧ y.l.length ≤ 1024 ∧ ∀ bb o, y.A = some ⟨bb, o, none⟩ → bb ≠ b
theorem EOk.grown {w W : World} {b : Nat} {y : El} (h : EOk w b y) (g : Gro b w W) : EOk W b y :=
  ⟨reads_same2 h.1 fun bb o v e hc => g.by_.block bb (cell_lt hc) (fun e' => h.2.2 bb o e (by injection e')), h.2.1, h.2.2⟩
theorem EOk.below {w W : World} {b : Nat} {y : El} (h : EOk w b y) (hB : Below w.heap.size w W) : EOk W b y := ⟨h.1.below hB, h.2⟩
theorem cmp_el {b n1 n2 : Nat} {x y : El} {W : World} (hx : EOk W b x) (hy : EOk W b y) (h1 : x.l.length = n1) (h2 : y.l.length = n2) :
    Calls Tryd.prog 46 #[.slice x.A n1 x.c, .slice y.A n2 y.c] W fun e w' => e = .returned (.int .i64 (termCmp x.l y.l)) ∧ Below W.heap.size W w' := by
  subst h1
  subst h2
  exact compare_any x.l y.l x.A y.A x.c y.c W hx.1 hy.1 (by have := hx.2.1; omega) (by have := hy.2.1; omega)
/-- All elements of the row. -/
def AllOk (w : World) (b n : Nat) (d : Nat → El) : Prop := ∀ i, i < n → EOk w b (d i)
theorem AllOk.shuf {w W : World} {b n x y : Nat} {d e : Nat → El} (h : AllOk w b n d) (s : Shuf x y d e) (hy : y ≤ n) (g : Gro b w W) : AllOk W b n e := fun i hi => by
  by_cases hin : x ≤ i ∧ i < y
  · obtain ⟨j, q1, q2, q3⟩ := s.src hin.1 hin.2
    rw [q3]; exact (h j (by omega)).grown g
  · rw [s.out (by omega)]; exact (h i hi).grown g
/-- The element at i moved down to j. -/
def ins (d : Nat → El) (i j : Nat) : Nat → El := fun k => if k = j then d i else if j < k ∧ k ≤ i then d (k - 1) else d k
theorem ins_self (d : Nat → El) (i : Nat) : ins d i i = d := by
  funext k; simp only [ins]; repeat' split
  all_goals first | rfl | (exfalso; omega) | (congr 1; omega)
theorem ins_step (d : Nat → El) {i j : Nat} (hj : 0 < j) (h : j ≤ i) : swp (ins d i j) j (j - 1) = ins d i (j - 1) := by
  funext k; simp only [ins, swp]; repeat' split
  all_goals first | rfl | (exfalso; omega) | (congr 1; omega) | (simp_all; done)
theorem ins_at (d : Nat → El) (i j : Nat) : ins d i j j = d i := by simp [ins]
theorem ins_before (d : Nat → El) {i j : Nat} (hj : 0 < j) : ins d i j (j - 1) = d (j - 1) := by
  simp only [ins]; repeat' split
  all_goals first | rfl | (exfalso; omega)
theorem ins_shuf (d : Nat → El) {a i : Nat} : ∀ (q : Nat), a + q ≤ i → Shuf a (i + 1) d (ins d i (i - q))
  | 0, _ => by rw [Nat.sub_zero, ins_self]; exact Shuf.refl _ _ _
  | q + 1, h => by
    have ih := ins_shuf d (a := a) (i := i) q (by omega)
    have := ins_step d (i := i) (j := i - q) (by omega) (by omega)
    rw [show i - (q + 1) = i - q - 1 by omega, ← this]
    exact ih.trans (shuf_swp _ (i := i - q) (j := i - q - 1) ⟨by omega, by omega⟩ ⟨by omega, by omega⟩)
theorem ins_shuf2 (d : Nat → El) {a i j : Nat} (h : a ≤ j) (k : j ≤ i) : Shuf a (i + 1) d (ins d i j) := by
  have := ins_shuf d (a := a) (i := i) (i - j) (by omega)
  rwa [show i - (i - j) = j by omega] at this
theorem ins_srt {R : El → El → Prop} (hR : Ord R) {d : Nat → El} {a i j : Nat} (hs : Srt R a i d) (ha : a ≤ j) (hj : j ≤ i) (hi : ∀ k, j ≤ k → k < i → R (d i) (d k)) (hlo : ∀ k, a ≤ k → k < j → R (d k) (d i)) : Srt R a (i + 1) (ins d i j) := fun x y h1 h2 h3 => by
  simp only [ins]
  by_cases e : x = y
  · subst e; exact hR.refl _
  repeat' split
  all_goals first
    | exact hR.refl _
    | (exfalso; omega)
    | exact hi _ (by omega) (by omega)
    | exact hlo _ (by omega) (by omega)
    | exact hs _ _ (by omega) (by omega) (by omega)
set_option maxRecDepth 100000 in
set_option maxHeartbeats 4000000 in
theorem insertion_some (R : El → El → Prop) (hR : Ord R) (b n cap a e0 : Nat) (d : Nat → El) (w : World) (hrow : RowD w b n d) (hok : AllOk w b n d) (hbw : b < w.heap.size) (he : e0 ≤ n) (hae : a < e0) (hn : n ≤ 10000000000000) (hcap : n ≤ cap)
    (htl : ∀ i j, a ≤ i → i < j → j < e0 → (termCmp (d j).l (d i).l < 0 ↔ ¬ R (d i) (d j))) :
    Calls Tryd.prog 64 #[.slice (some ⟨b, 0, none⟩) n cap, .int .i64 a, .int .i64 e0, .func (.func 46) #[] #[]] w fun e w' => ∃ d', e = .returned (.tuple #[]) ∧ RowD w' b n d' ∧ Shuf a e0 d d' ∧ Srt R a e0 d' ∧ Gro b w w' := by
  have R0 := Lib.hid hrow
  have OK := Lib.hid hok
  have TL := Lib.hid htl
  have HO := Lib.hid hR
  clear hrow hok htl hR
  have w1 : IntKind.i64.wrap ((a : Int) + 1) = (a : Int) + 1 := by rw [IntKind.wrap_i64]; omega
  go_enter Tryd.func64, Tryd.ntmps64
  go_wp2
  go_loopw [8] (fun iv wr => ∃ (i : Nat) (cur : Nat → El), iv = .int .i64 i ∧ a + 1 ≤ i ∧ i ≤ e0 ∧ Hid (RowD wr b n cur) ∧ Hid (Shuf a i d cur) ∧ Hid (Srt R a i cur) ∧ Hid (Gro b w wr)) (fun iv wr => e0 - (intOf iv).toNat)
  case atStart => exact ⟨a + 1, d, by go_num, Nat.le_refl _, by omega, R0, Shuf.refl _ _ _, Srt.one HO.out (by omega) _, Gro.refl b w⟩
  case round =>
    clear R0
    obtain ⟨i, cur, rfl, hai, hie, hRw, hSh, hSr, hG⟩ := hrel
    obtain ⟨wo, hwo⟩ : ∃ W, W = wr := ⟨_, rfl⟩
    subst hwo
    by_cases hlt : i < e0
    · have hk1 : (i : Int) < (e0 : Int) := by omega
      have hci : cur i = d i := hSh.out.out (.inr (Nat.le_refl _))
      have hcok : AllOk wo b n cur := OK.out.shuf hSh.out (by omega) hG.out
      have HCK := Lib.hid hcok
      have HTL := Lib.hid (show ∀ k, a ≤ k → k < i → (termCmp (cur i).l (cur k).l < 0 ↔ ¬ R (cur k) (cur i)) from fun k h1 h2 => by
        obtain ⟨k', p1, p2, p3⟩ := hSh.out.src h1 h2
        rw [hci, p3]
        exact TL.out k' i p1 p2 hlt)
      have hbr : b < wo.heap.size := by have := hG.out.size; omega
      have I0 := Lib.hid (show RowD wo b n (ins cur i i) by rw [ins_self]; exact hRw.out)
      have w2 : IntKind.i64.wrap ((i : Int) + 1) = (i : Int) + 1 := by rw [IntKind.wrap_i64]; omega
      clear hci hcok
      go_wp2
      go_loopw [9] (fun jv wr => ∃ j : Nat, jv = .int .i64 j ∧ a ≤ j ∧ j ≤ i ∧ Hid (RowD wr b n (ins cur i j)) ∧ Hid (∀ k, j ≤ k → k < i → R (cur i) (cur k)) ∧ Hid (Gro b wo wr)) (fun jv wr => (intOf jv).toNat)
      case atStart => exact ⟨i, rfl, by omega, Nat.le_refl _, I0, fun k h1 h2 => by omega, Gro.refl b wo⟩
      case round =>
        clear I0
        obtain ⟨j, rfl, haj, hji, hRj, hLo, hGj⟩ := hrel
        by_cases hja : a < j
        · have h1 := hRj.out j (by omega)
          have h2 := hRj.out (j - 1) (by omega)
          rw [ins_at] at h1
          rw [ins_before cur (by omega)] at h2
          have E1 := Lib.hid ((HCK.out i (by omega)).grown hGj.out)
          have E2 := Lib.hid ((HCK.out (j - 1) (by omega)).grown hGj.out)
          have hbq : b < wr.heap.size := by have := hGj.out.size; omega
          have HT1 := Lib.hid (HTL.out (j - 1) (by omega) (by omega))
          have HX1 := Lib.hid (ins_at cur i j)
          have HX2 := Lib.hid (ins_before cur (i := i) (j := j) (by omega))
          obtain ⟨x, hx⟩ : ∃ x, cur i = x := ⟨_, rfl⟩
          obtain ⟨y, hy⟩ : ∃ y, cur (j - 1) = y := ⟨_, rfl⟩
          rw [hx] at h1 E1 HX1 HT1
          rw [hy] at h2 E2 HX2 HT1
          have HXY := Lib.hid (⟨hx, hy⟩ : cur i = x ∧ cur (j - 1) = y)
          clear hx hy
          obtain ⟨c1, f1⟩ := h1
          obtain ⟨c2, f2⟩ := h2
          rcases x with ⟨Ax, lx, kx⟩
          rcases y with ⟨Ay, ly, ky⟩
          simp only [El.val] at c1 c2
          obtain ⟨nx, hnx⟩ : ∃ m, lx.length = m := ⟨_, rfl⟩
          obtain ⟨ny, hny⟩ : ∃ m, ly.length = m := ⟨_, rfl⟩
          rw [hnx] at c1
          rw [hny] at c2
          have HNX := Lib.hid hnx
          have HNY := Lib.hid hny
          have g1 : decide ((a : Int) < (j : Int)) = true := decide_eq_true (by omega)
          have g1' : (a : Int) < (j : Int) := by omega
          have w3 : IntKind.i64.wrap ((j : Int) - 1) = (j : Int) - 1 := by rw [IntKind.wrap_i64]; omega
          have b1 : (0 : Int) ≤ (j : Int) := by omega
          have b2 : (0 : Int) ≤ (j : Int) - 1 := by omega
          have b2' : (1 : Int) ≤ (j : Int) := by omega
          have d1 : (j : Int) < (n : Int) := by omega
          have d2 : (j : Int) - 1 < (n : Int) := by omega
          have t2 : ((j : Int) - 1).toNat = j - 1 := by omega
          have n0 : j < n := by omega
          have n1 : j - 1 < n := by omega
          have n2 : 0 < j := by omega
          have ne1 : ¬ j = j - 1 := by omega
          have ne2 : ¬ j - 1 = j := by omega
          clear hnx hny
          go_wp2_with fail
          go_region_held3 (fun w' => w'.cell? ⟨b, j, none⟩ = some (.slice Ax nx kx) ∧ w'.cell? ⟨b, j - 1, none⟩ = some (.slice Ay ny ky))
            (first
              | exact ⟨cell_below hb c1, cell_below hb c2⟩
              | go_keep)
            ((go_at_call 46; refine (cmp_el (E1.out.below ((Below.refl _ _).drew)) (E2.out.below ((Below.refl _ _).drew)) HNX.out HNY.out).mono ?_; rintro e wc ⟨rfl, hb⟩))
          have HBb := Lib.hid hb
          have HRc := Lib.hid (hRj.out.drew.below hbq hb)
          have HGc := Lib.hid (grown_belowS (grown_drewS hGj.out) hb)
          have HHE := Lib.hid (⟨HX1.out, HX2.out⟩ : ins cur i j j = ⟨Ax, lx, kx⟩ ∧ ins cur i j (j - 1) = ⟨Ay, ly, ky⟩)
          by_cases hcm : termCmp lx ly < 0
          · have hcb : decide (termCmp lx ly < 0) = true := decide_eq_true hcm
            have HRx := Lib.hid (HT1.out.1 hcm)
            have h1 := HRc.out j n0
            have h2 := HRc.out (j - 1) n1
            rw [HHE.out.1] at h1
            rw [HHE.out.2] at h2
            obtain ⟨c1', f1'⟩ := h1
            obtain ⟨c2', f2'⟩ := h2
            simp only [El.val] at c1' c2'
            rw [HNX.out] at c1'
            rw [HNY.out] at c2'
            clear hb c1 c2 f1 f2
            go_wp2_with fail
            go_region
            have HW := Lib.hid (show RowD ((wc.setCell ⟨b, j, none⟩ (.slice Ay ny ky)).setCell ⟨b, j - 1, none⟩ (.slice Ax nx kx)).drew b n (ins cur i (j - 1)) by
              rw [← ins_step cur n2 hji]
              have := (HRc.out.swap ne1 HHE.out.1 HHE.out.2).drew
              simp only [El.val, HNX.out, HNY.out] at this
              exact this)
            have HG2 := Lib.hid (grown_drewS (grown_setS (grown_setS HGc.out j (.slice Ay ny ky)) (j - 1) (.slice Ax nx kx)))
            have HL2 := Lib.hid (show ∀ k, j - 1 ≤ k → k < i → R (cur i) (cur k) from fun k q1 q2 => by
              by_cases e : k = j - 1
              · subst e
                rw [HXY.out.1, HXY.out.2]
                exact (HO.out.total _ _).resolve_right HRx.out
              · exact hLo.out k (by omega) q2)
            clear c1' c2' f1' f2'
            go_wp2
            go_roundw
            case rel => exact ⟨j - 1, by go_num, by omega, by omega, HW, HL2, HG2⟩
            case measure => simp [intOf]; omega
          · have hcb : decide (termCmp lx ly < 0) = false := decide_eq_false hcm
            have HRx := Lib.hid (Classical.not_not.1 fun h => hcm (HT1.out.2 h))
            have HS2 := Lib.hid (ins_srt HO.out hSr.out haj hji hLo.out (fun k q1 q2 => HO.out.trans (hSr.out k (j - 1) q1 (by omega) (by omega)) (by rw [HXY.out.1, HXY.out.2]; exact HRx.out)))
            have HSH2 := Lib.hid ((hSh.out.mono (Nat.le_refl _) (by omega)).trans (ins_shuf2 cur haj hji) : Shuf a (i + 1) d (ins cur i j))
            have HG3 := Lib.hid (hG.out.trans HGc.out)
            clear hb c1 c2 f1 f2
            go_wp2
            go_roundw
            case rel => exact ⟨i + 1, _, by go_num, by omega, by omega, HRc, HSH2, HS2, HG3⟩
            case measure => simp [intOf]; omega
        · have g1 : decide ((a : Int) < (j : Int)) = false := decide_eq_false (by omega)
          have g1' : ¬ (a : Int) < (j : Int) := by omega
          have HS2 := Lib.hid (ins_srt HO.out hSr.out haj hji hLo.out (fun k q1 q2 => by omega))
          have HSH2 := Lib.hid ((hSh.out.mono (Nat.le_refl _) (by omega)).trans (ins_shuf2 cur haj hji) : Shuf a (i + 1) d (ins cur i j))
          have HG3 := Lib.hid (hG.out.trans hGj.out)
          go_wp2_with fail
          go_quiet (fail)
          go_wp2
          go_roundw
          case rel => exact ⟨i + 1, _, by go_num, by omega, by omega, hRj, HSH2, HS2, grown_drewNS _ HG3.out⟩
          case measure => simp [intOf]; omega
    · have hk1 : ¬ (i : Int) < (e0 : Int) := by omega
      obtain rfl : i = e0 := by omega
      go_wp2
      go_end0
      exact ⟨rfl, cur, hRw.out, hSh.out, hSr.out, hG.out⟩
theorem insertion_any (R : El → El → Prop) (hR : Ord R) (b n cap a e0 : Nat) (d : Nat → El) (w : World) (hrow : RowD w b n d) (hok : AllOk w b n d) (hbw : b < w.heap.size) (he : e0 ≤ n) (hae : a ≤ e0) (hn : n ≤ 10000000000000) (hcap : n ≤ cap)
    (htl : ∀ i j, a ≤ i → i < j → j < e0 → (termCmp (d j).l (d i).l < 0 ↔ ¬ R (d i) (d j))) :
    Calls Tryd.prog 64 #[.slice (some ⟨b, 0, none⟩) n cap, .int .i64 a, .int .i64 e0, .func (.func 46) #[] #[]] w fun e w' => ∃ d', e = .returned (.tuple #[]) ∧ RowD w' b n d' ∧ Shuf a e0 d d' ∧ Srt R a e0 d' ∧ Gro b w w' := by
  rcases Nat.lt_or_ge a e0 with h | h
  · exact insertion_some R hR b n cap a e0 d w hrow hok hbw he h hn hcap htl
  · obtain rfl : a = e0 := by omega
    have w1 : IntKind.i64.wrap ((a : Int) + 1) = (a : Int) + 1 := by rw [IntKind.wrap_i64]; omega
    have R0 := Lib.hid hrow
    have HO := Lib.hid hR
    have hk1 : ¬ (a : Int) + 1 < (a : Int) := by omega
    clear hrow hok htl hR
    go_enter Tryd.func64, Tryd.ntmps64
    go_wp2
    refine wp_loop_rounds 1 ?_
    rw [rounds_succ]
    go_wp2
    go_end0
    exact ⟨d, rfl, R0.out, Shuf.refl _ _ _, Srt.one HO.out (by omega) _, Gro.refl b w⟩
end Go.Proofs.YtfeaolnklooanaaDoor.Tm
