/- Rows of terms that are sorted in place: symMerge. -/
import Derived.Test.YtfeaolnklooanaaDoorSrtI
namespace Go.Proofs.YtfeaolnklooanaaDoor.Tm
open Go.RowKit Go.Proofs.YtfeaolnklooanaaDoor.Sx
set_option linter.unusedVariables false
set_option linter.unusedSimpArgs false

/-- The element at a moved up to k. -/
def del (d : Nat → El) (a k : Nat) : Nat → El := fun x => if x = k then d a else if a ≤ x ∧ x < k then d (x + 1) else d x
theorem del_self (d : Nat → El) (a : Nat) : del d a a = d := by
  funext k; simp only [del]; repeat' split
  all_goals first | rfl | (exfalso; omega) | (congr 1; omega)
theorem del_step (d : Nat → El) {a k : Nat} (h : a ≤ k) : swp (del d a k) k (k + 1) = del d a (k + 1) := by
  funext x; simp only [del, swp]; repeat' split
  all_goals first | rfl | (exfalso; omega) | (congr 1; omega) | (simp_all; done)
theorem del_shuf (d : Nat → El) {a b : Nat} : ∀ (q : Nat), a + q < b → Shuf a b d (del d a (a + q))
  | 0, _ => by rw [Nat.add_zero, del_self]; exact Shuf.refl _ _ _
  | q + 1, h => by
    have ih := del_shuf d (a := a) (b := b) q (by omega)
    have := del_step d (a := a) (k := a + q) (by omega)
    rw [show a + (q + 1) = a + q + 1 by omega, ← this]
    exact ih.trans (shuf_swp _ (i := a + q) (j := a + q + 1) ⟨by omega, by omega⟩ ⟨by omega, by omega⟩)
theorem del_shuf2 (d : Nat → El) {a b k : Nat} (h : a ≤ k) (hb : k < b) : Shuf a b d (del d a k) := by
  have := del_shuf d (a := a) (b := b) (k - a) (by omega)
  rwa [show a + (k - a) = k by omega] at this
theorem del_srt {R : El → El → Prop} (hR : Ord R) {d : Nat → El} {a k b : Nat} (hs : Srt R (a + 1) b d) (hk : a ≤ k) (hkb : k < b) (hlo : ∀ x, a + 1 ≤ x → x ≤ k → R (d x) (d a)) (hhi : ∀ x, k < x → x < b → R (d a) (d x)) : Srt R a b (del d a k) := fun x y h1 h2 h3 => by
  simp only [del]
  by_cases e : x = y
  · subst e; exact hR.refl _
  repeat' split
  all_goals first
    | exact hR.refl _
    | (exfalso; omega)
    | exact hlo _ (by omega) (by omega)
    | exact hhi _ (by omega) (by omega)
    | exact hs _ _ (by omega) (by omega) (by omega)
set_option maxRecDepth 100000 in
set_option maxHeartbeats 8000000 in
theorem sym_left (R : El → El → Prop) (hR : Ord R) (b n cap a e0 : Nat) (d : Nat → El) (w : World) (hrow : RowD w b n d) (hok : AllOk w b n d) (hbw : b < w.heap.size) (he : e0 ≤ n) (hae : a + 1 < e0) (hn : n ≤ 10000000000000) (hcap : n ≤ cap)
    (hs : Srt R (a + 1) e0 d) (htl : Tells R (fun x y => termCmp x.l y.l) a (a + 1) e0 d) :
    Calls Tryd.prog 65 #[.slice (some ⟨b, 0, none⟩) n cap, .int .i64 a, .int .i64 ((a : Int) + 1), .int .i64 e0, .func (.func 46) #[] #[]] w fun e w' => ∃ d', e = .returned (.tuple #[]) ∧ RowD w' b n d' ∧ Shuf a e0 d d' ∧ Srt R a e0 d' ∧ Gro b w w' := by
  have R0 := Lib.hid hrow
  have OK := Lib.hid hok
  have TL := Lib.hid htl
  have HO := Lib.hid hR
  have HS := Lib.hid hs
  have w0 : IntKind.i64.wrap ((a : Int) + 1 - (a : Int)) = 1 := by rw [IntKind.wrap_i64]; omega
  have hb1 : ((a : Int) + 1 - (a : Int) == 1) = true := by rw [beq_iff_eq]; omega
  clear hrow hok htl hR hs
  go_enter Tryd.func65, Tryd.ntmps65
  go_wp2
  go_loopw [10, 11] (fun iv jv wr => ∃ (i j : Nat), iv = .int .i64 i ∧ jv = .int .i64 j ∧ a + 1 ≤ i ∧ i ≤ j ∧ j ≤ e0 ∧ Hid (RowD wr b n d) ∧ Hid (∀ x, a + 1 ≤ x → x < i → R (d x) (d a)) ∧ Hid (∀ x, j ≤ x → x < e0 → R (d a) (d x)) ∧ Hid (Gro b w wr)) (fun iv jv wr => (intOf jv).toNat - (intOf iv).toNat)
  case atStart => exact ⟨a + 1, e0, by go_num, rfl, Nat.le_refl _, by omega, Nat.le_refl _, R0, fun x h1 h2 => by omega, fun x h1 h2 => by omega, Gro.refl b w⟩
  case round =>
    clear R0
    obtain ⟨i, j, rfl, rfl, hai, hij, hje, hRw, hLo, hHi, hG⟩ := hrel
    by_cases hlt : i < j
    · have hk1 : (i : Int) < (j : Int) := by omega
      obtain ⟨h, hh⟩ : ∃ h : Nat, h = (i + j) / 2 := ⟨_, rfl⟩
      have hhi : ((i : Int) + (j : Int)) / 2 = (h : Int) := by omega
      have h1 := hRw.out h (by omega)
      have h2 := hRw.out a (by omega)
      have E1 := Lib.hid ((OK.out h (by omega)).grown hG.out)
      have E2 := Lib.hid ((OK.out a (by omega)).grown hG.out)
      have HT1 := Lib.hid (show termCmp (d h).l (d a).l < 0 ↔ ¬ R (d a) (d h) from TL.out a h (Nat.le_refl _) (by omega) (by omega) (by omega))
      have HXY := Lib.hid (⟨rfl, rfl⟩ : d h = d h ∧ d a = d a)
      have hbq : b < wr.heap.size := by have := hG.out.size; omega
      have ga : a + 1 ≤ h := by omega
      have gi : i ≤ h := by omega
      have gj : h < j := by omega
      clear hh
      obtain ⟨x, hx⟩ : ∃ x, d h = x := ⟨_, rfl⟩
      obtain ⟨y, hy⟩ : ∃ y, d a = y := ⟨_, rfl⟩
      rw [hx] at h1 E1 HT1
      rw [hy] at h2 E2 HT1
      have HX := Lib.hid (⟨hx, hy⟩ : d h = x ∧ d a = y)
      clear hx hy HXY
      obtain ⟨c1, f1⟩ := h1
      obtain ⟨c2, f2⟩ := h2
      rcases x with ⟨Ax, lx, kx⟩
      rcases y with ⟨Ay, ly, ky⟩
      simp only [El.val] at c1 c2
      obtain ⟨nx, hnx⟩ : ∃ m, lx.length = m := ⟨_, rfl⟩
      obtain ⟨ny, hny⟩ : ∃ m, ly.length = m := ⟨_, rfl⟩
      rw [hnx] at c1
      rw [hny] at c2
      have HNX := Lib.hid hnx
      have HNY := Lib.hid hny
      have b1 : (0 : Int) ≤ (h : Int) := by omega
      have d1 : (h : Int) < (n : Int) := by omega
      have b2 : (0 : Int) ≤ (a : Int) := by omega
      have d2 : (a : Int) < (n : Int) := by omega
      have w2 : IntKind.i64.wrap ((h : Int) + 1) = (h : Int) + 1 := by rw [IntKind.wrap_i64]; omega
      clear hnx hny f1 f2
      go_wp2_with fail
      go_region_held3 (fun w' => w'.cell? ⟨b, h, none⟩ = some (.slice Ax nx kx) ∧ w'.cell? ⟨b, a, none⟩ = some (.slice Ay ny ky))
        (first
          | exact ⟨cell_below hb c1, cell_below hb c2⟩
          | go_keep)
        ((go_at_call 46; refine (cmp_el (E1.out.below ((Below.refl _ _).drew)) (E2.out.below ((Below.refl _ _).drew)) HNX.out HNY.out).mono ?_; rintro e wc ⟨rfl, hb⟩))
      have HRc := Lib.hid (hRw.out.drew.below hbq hb)
      have HGc := Lib.hid (grown_belowS (grown_drewS hG.out) hb)
      by_cases hcm : termCmp lx ly < 0
      · have hcb : decide (termCmp lx ly < 0) = true := decide_eq_true hcm
        have HL2 := Lib.hid (show ∀ x, a + 1 ≤ x → x < h + 1 → R (d x) (d a) from fun x q1 q2 => by
          have hha : R (d h) (d a) := by rw [HX.out.1, HX.out.2]; exact (HO.out.total _ _).resolve_right (HT1.out.1 hcm)
          exact HO.out.trans (HS.out x h q1 (by omega) (by omega)) hha)
        clear hb c1 c2
        go_wp2_with fail
        go_roundw
        case rel => exact ⟨h + 1, j, by go_num, rfl, by omega, by omega, hje, HRc, HL2, hHi, HGc⟩
        case measure => simp [intOf]; omega
      · have hcb : decide (termCmp lx ly < 0) = false := decide_eq_false hcm
        have HL2 := Lib.hid (show ∀ x, h ≤ x → x < e0 → R (d a) (d x) from fun x q1 q2 => by
          have hha : R (d a) (d h) := by rw [HX.out.1, HX.out.2]; exact Classical.not_not.1 fun q => hcm (HT1.out.2 q)
          exact HO.out.trans hha (HS.out h x (by omega) q1 q2))
        clear hb c1 c2
        go_wp2_with fail
        go_roundw
        case rel => exact ⟨i, h, rfl, by go_num, by omega, by omega, by omega, HRc, hLo, HL2, HGc⟩
        case measure => simp [intOf]; omega
    · have hk1 : ¬ (i : Int) < (j : Int) := by omega
      obtain rfl : i = j := by omega
      obtain ⟨wo, hwo⟩ : ∃ W, W = wr := ⟨_, rfl⟩
      subst hwo
      have I0 := Lib.hid (show RowD wo b n (del d a a) by rw [del_self]; exact hRw.out)
      have w3 : IntKind.i64.wrap ((i : Int) - 1) = (i : Int) - 1 := by rw [IntKind.wrap_i64]; omega
      go_wp2
      go_loopw [13] (fun kv wr => ∃ k : Nat, kv = .int .i64 k ∧ a ≤ k ∧ k + 1 ≤ i ∧ Hid (RowD wr b n (del d a k)) ∧ Hid (Gro b wo wr)) (fun kv wr => i - (intOf kv).toNat)
      case atStart => exact ⟨a, rfl, Nat.le_refl _, by omega, I0, Gro.refl b wo⟩
      case round =>
        clear I0
        obtain ⟨k, rfl, hak, hki, hRk, hGk⟩ := hrel
        by_cases hlt2 : k + 1 < i
        · have hk2 : (k : Int) < (i : Int) - 1 := by omega
          have hk2' : (k : Int) + 1 < (i : Int) := by omega
          have h1 := hRk.out k (by omega)
          have h2 := hRk.out (k + 1) (by omega)
          obtain ⟨x, hx⟩ : ∃ x, del d a k k = x := ⟨_, rfl⟩
          obtain ⟨y, hy⟩ : ∃ y, del d a k (k + 1) = y := ⟨_, rfl⟩
          rw [hx] at h1
          rw [hy] at h2
          have HX := Lib.hid (⟨hx, hy⟩ : del d a k k = x ∧ del d a k (k + 1) = y)
          clear hx hy
          obtain ⟨c1, f1⟩ := h1
          obtain ⟨c2, f2⟩ := h2
          rcases x with ⟨Ax, lx, kx⟩
          rcases y with ⟨Ay, ly, ky⟩
          simp only [El.val] at c1 c2
          have b1 : (0 : Int) ≤ (k : Int) := by omega
          have d1 : (k : Int) < (n : Int) := by omega
          have b2 : (0 : Int) ≤ (k : Int) + 1 := by omega
          have d2 : (k : Int) + 1 < (n : Int) := by omega
          have t2 : ((k : Int) + 1).toNat = k + 1 := by omega
          have w4 : IntKind.i64.wrap ((k : Int) + 1) = (k : Int) + 1 := by rw [IntKind.wrap_i64]; omega
          have ne1 : ¬ k = k + 1 := by omega
          have ne2 : ¬ k + 1 = k := by omega
          go_wp2_with fail
          go_region
          have HW := Lib.hid (show RowD ((wr.setCell ⟨b, k, none⟩ (.slice Ay ly.length ky)).setCell ⟨b, k + 1, none⟩ (.slice Ax lx.length kx)).drew b n (del d a (k + 1)) by
            rw [← del_step d hak]
            exact (hRk.out.swap ne1 HX.out.1 HX.out.2).drew)
          have HG2 := Lib.hid (grown_drewS (grown_setS (grown_setS hGk.out k (.slice Ay ly.length ky)) (k + 1) (.slice Ax lx.length kx)))
          clear c1 c2 f1 f2
          go_wp2
          go_roundw
          case rel => exact ⟨k + 1, by go_num, by omega, by omega, HW, HG2⟩
          case measure => simp [intOf]; omega
        · have hk2 : ¬ (k : Int) < (i : Int) - 1 := by omega
          obtain rfl : i = k + 1 := by omega
          have HS2 := Lib.hid (del_srt HO.out HS.out hak (by omega) (fun x q1 q2 => hLo.out x q1 (by omega)) (fun x q1 q2 => hHi.out x (by omega) q2))
          have HSH2 := Lib.hid (del_shuf2 d (b := e0) hak (by omega))
          have HG3 := Lib.hid (hG.out.trans hGk.out)
          go_wp2
          refine bodyPost_ret (results_none rfl _ _ _) rfl ?_
          exact ⟨rfl, del d a k, hRk.out, HSH2.out, HS2.out, HG3.out⟩
set_option maxRecDepth 100000 in
set_option maxHeartbeats 8000000 in
theorem sym_right (R : El → El → Prop) (hR : Ord R) (b n cap a m : Nat) (d : Nat → El) (w : World) (hrow : RowD w b n d) (hok : AllOk w b n d) (hbw : b < w.heap.size) (he : m + 1 ≤ n) (ham : a + 2 ≤ m) (hn : n ≤ 10000000000000) (hcap : n ≤ cap)
    (hs : Srt R a m d) (htl : Tells R (fun x y => termCmp x.l y.l) a m (m + 1) d) :
    Calls Tryd.prog 65 #[.slice (some ⟨b, 0, none⟩) n cap, .int .i64 a, .int .i64 m, .int .i64 ((m : Int) + 1), .func (.func 46) #[] #[]] w fun e w' => ∃ d', e = .returned (.tuple #[]) ∧ RowD w' b n d' ∧ Shuf a (m + 1) d d' ∧ Srt R a (m + 1) d' ∧ Gro b w w' := by
  have R0 := Lib.hid hrow
  have OK := Lib.hid hok
  have TL := Lib.hid htl
  have HO := Lib.hid hR
  have HS := Lib.hid hs
  have w0 : IntKind.i64.wrap ((m : Int) - (a : Int)) = (m : Int) - (a : Int) := by rw [IntKind.wrap_i64]; omega
  have hb0 : ((m : Int) - (a : Int) == 1) = false := by rw [beq_eq_false_iff_ne]; omega
  have w1 : IntKind.i64.wrap ((m : Int) + 1 - (m : Int)) = 1 := by rw [IntKind.wrap_i64]; omega
  clear hrow hok htl hR hs
  go_enter Tryd.func65, Tryd.ntmps65
  go_wp2
  go_loopw [14, 15] (fun iv jv wr => ∃ (i j : Nat), iv = .int .i64 i ∧ jv = .int .i64 j ∧ a ≤ i ∧ i ≤ j ∧ j ≤ m ∧ Hid (RowD wr b n d) ∧ Hid (∀ x, a ≤ x → x < i → R (d x) (d m)) ∧ Hid (∀ x, j ≤ x → x < m → R (d m) (d x)) ∧ Hid (Gro b w wr)) (fun iv jv wr => (intOf jv).toNat - (intOf iv).toNat)
  case atStart => exact ⟨a, m, rfl, rfl, Nat.le_refl _, by omega, Nat.le_refl _, R0, fun x h1 h2 => by omega, fun x h1 h2 => by omega, Gro.refl b w⟩
  case round =>
    clear R0
    obtain ⟨i, j, rfl, rfl, hai, hij, hje, hRw, hLo, hHi, hG⟩ := hrel
    by_cases hlt : i < j
    · have hk1 : (i : Int) < (j : Int) := by omega
      obtain ⟨h, hh⟩ : ∃ h : Nat, h = (i + j) / 2 := ⟨_, rfl⟩
      have hhi : ((i : Int) + (j : Int)) / 2 = (h : Int) := by omega
      have h1 := hRw.out m (by omega)
      have h2 := hRw.out h (by omega)
      have E1 := Lib.hid ((OK.out m (by omega)).grown hG.out)
      have E2 := Lib.hid ((OK.out h (by omega)).grown hG.out)
      have HT1 := Lib.hid (show termCmp (d m).l (d h).l < 0 ↔ ¬ R (d h) (d m) from TL.out h m (by omega) (by omega) (Nat.le_refl _) (by omega))
      have hbq : b < wr.heap.size := by have := hG.out.size; omega
      have gi : i ≤ h := by omega
      have gj : h < j := by omega
      clear hh
      obtain ⟨x, hx⟩ : ∃ x, d m = x := ⟨_, rfl⟩
      obtain ⟨y, hy⟩ : ∃ y, d h = y := ⟨_, rfl⟩
      rw [hx] at h1 E1 HT1
      rw [hy] at h2 E2 HT1
      have HX := Lib.hid (⟨hx, hy⟩ : d m = x ∧ d h = y)
      clear hx hy
      obtain ⟨c1, f1⟩ := h1
      obtain ⟨c2, f2⟩ := h2
      rcases x with ⟨Ax, lx, kx⟩
      rcases y with ⟨Ay, ly, ky⟩
      simp only [El.val] at c1 c2
      obtain ⟨nx, hnx⟩ : ∃ m, lx.length = m := ⟨_, rfl⟩
      obtain ⟨ny, hny⟩ : ∃ m, ly.length = m := ⟨_, rfl⟩
      rw [hnx] at c1
      rw [hny] at c2
      have HNX := Lib.hid hnx
      have HNY := Lib.hid hny
      have b1 : (0 : Int) ≤ (m : Int) := by omega
      have d1 : (m : Int) < (n : Int) := by omega
      have b2 : (0 : Int) ≤ (h : Int) := by omega
      have d2 : (h : Int) < (n : Int) := by omega
      have w2 : IntKind.i64.wrap ((h : Int) + 1) = (h : Int) + 1 := by rw [IntKind.wrap_i64]; omega
      clear hnx hny f1 f2
      go_wp2_with fail
      go_region_held3 (fun w' => w'.cell? ⟨b, m, none⟩ = some (.slice Ax nx kx) ∧ w'.cell? ⟨b, h, none⟩ = some (.slice Ay ny ky))
        (first
          | exact ⟨cell_below hb c1, cell_below hb c2⟩
          | go_keep)
        ((go_at_call 46; refine (cmp_el (E1.out.below ((Below.refl _ _).drew)) (E2.out.below ((Below.refl _ _).drew)) HNX.out HNY.out).mono ?_; rintro e wc ⟨rfl, hb⟩))
      have HRc := Lib.hid (hRw.out.drew.below hbq hb)
      have HGc := Lib.hid (grown_belowS (grown_drewS hG.out) hb)
      generalize hcb : decide (termCmp lx ly < 0) = cb
      cases cb with
      | true =>
        have hcm : termCmp lx ly < 0 := of_decide_eq_true hcb
        have HL2 := Lib.hid (show ∀ x, h ≤ x → x < m → R (d m) (d x) from fun x q1 q2 => by
          have hha : R (d m) (d h) := by rw [HX.out.1, HX.out.2]; exact (HO.out.total _ _).resolve_left (HT1.out.1 hcm)
          exact HO.out.trans hha (HS.out h x (by omega) q1 q2))
        clear hb c1 c2 hcb hcm
        go_wp2_with fail
        go_roundw
        case rel => exact ⟨i, h, rfl, by go_num, by omega, by omega, by omega, HRc, hLo, HL2, HGc⟩
        case measure => simp [intOf]; omega
      | false =>
        have hcm : ¬ termCmp lx ly < 0 := of_decide_eq_false hcb
        have HL2 := Lib.hid (show ∀ x, a ≤ x → x < h + 1 → R (d x) (d m) from fun x q1 q2 => by
          have hha : R (d h) (d m) := by rw [HX.out.1, HX.out.2]; exact Classical.not_not.1 fun q => hcm (HT1.out.2 q)
          exact HO.out.trans (HS.out x h q1 (by omega) (by omega)) hha)
        clear hb c1 c2 hcb hcm
        go_wp2_with fail
        go_roundw
        case rel => exact ⟨h + 1, j, by go_num, rfl, by omega, by omega, hje, HRc, HL2, hHi, HGc⟩
        case measure => simp [intOf]; omega
    · have hk1 : ¬ (i : Int) < (j : Int) := by omega
      obtain rfl : i = j := by omega
      obtain ⟨wo, hwo⟩ : ∃ W, W = wr := ⟨_, rfl⟩
      subst hwo
      have I0 := Lib.hid (show RowD wo b n (ins d m m) by rw [ins_self]; exact hRw.out)
      go_wp2
      go_loopw [17] (fun kv wr => ∃ k : Nat, kv = .int .i64 k ∧ i ≤ k ∧ k ≤ m ∧ Hid (RowD wr b n (ins d m k)) ∧ Hid (Gro b wo wr)) (fun kv wr => (intOf kv).toNat)
      case atStart => exact ⟨m, rfl, by omega, Nat.le_refl _, I0, Gro.refl b wo⟩
      case round =>
        clear I0
        obtain ⟨k, rfl, hik, hkm, hRk, hGk⟩ := hrel
        by_cases hlt2 : i < k
        · have hk2 : (i : Int) < (k : Int) := by omega
          have h1 := hRk.out k (by omega)
          have h2 := hRk.out (k - 1) (by omega)
          obtain ⟨x, hx⟩ : ∃ x, ins d m k k = x := ⟨_, rfl⟩
          obtain ⟨y, hy⟩ : ∃ y, ins d m k (k - 1) = y := ⟨_, rfl⟩
          rw [hx] at h1
          rw [hy] at h2
          have HX := Lib.hid (⟨hx, hy⟩ : ins d m k k = x ∧ ins d m k (k - 1) = y)
          clear hx hy
          obtain ⟨c1, f1⟩ := h1
          obtain ⟨c2, f2⟩ := h2
          rcases x with ⟨Ax, lx, kx⟩
          rcases y with ⟨Ay, ly, ky⟩
          simp only [El.val] at c1 c2
          have b1 : (0 : Int) ≤ (k : Int) := by omega
          have d1 : (k : Int) < (n : Int) := by omega
          have b2 : (0 : Int) ≤ (k : Int) - 1 := by omega
          have b2' : (1 : Int) ≤ (k : Int) := by omega
          have d2 : (k : Int) - 1 < (n : Int) := by omega
          have t2 : ((k : Int) - 1).toNat = k - 1 := by omega
          have w4 : IntKind.i64.wrap ((k : Int) - 1) = (k : Int) - 1 := by rw [IntKind.wrap_i64]; omega
          have ne1 : ¬ k = k - 1 := by omega
          have ne2 : ¬ k - 1 = k := by omega
          have n2 : 0 < k := by omega
          go_wp2_with fail
          go_region
          have HW := Lib.hid (show RowD ((wr.setCell ⟨b, k, none⟩ (.slice Ay ly.length ky)).setCell ⟨b, k - 1, none⟩ (.slice Ax lx.length kx)).drew b n (ins d m (k - 1)) by
            rw [← ins_step d n2 hkm]
            exact (hRk.out.swap ne1 HX.out.1 HX.out.2).drew)
          have HG2 := Lib.hid (grown_drewS (grown_setS (grown_setS hGk.out k (.slice Ay ly.length ky)) (k - 1) (.slice Ax lx.length kx)))
          clear c1 c2 f1 f2
          go_wp2
          go_roundw
          case rel => exact ⟨k - 1, by go_num, by omega, by omega, HW, HG2⟩
          case measure => simp [intOf]; omega
        · have hk2 : ¬ (i : Int) < (k : Int) := by omega
          obtain rfl : i = k := by omega
          have HS2 := Lib.hid (ins_srt HO.out HS.out hai hje hHi.out hLo.out)
          have HSH2 := Lib.hid (ins_shuf2 d hai hje)
          have HG3 := Lib.hid (hG.out.trans hGk.out)
          go_wp2
          refine bodyPost_ret (results_none rfl _ _ _) rfl ?_
          exact ⟨rfl, ins d m i, hRk.out, HSH2.out, HS2.out, HG3.out⟩
end Go.Proofs.YtfeaolnklooanaaDoor.Tm
