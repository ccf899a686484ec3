/- Rows of terms that are sorted in place: symMerge, whole. -/
import Derived.Test.YtfeaolnklooanaaDoorSrtM
import Derived.Deep.DeepCutAuto
import Derived.Deep.CutRange
namespace Go.Proofs.YtfeaolnklooanaaDoor.Tm
open Go.RowKit Go.Proofs.YtfeaolnklooanaaDoor.Sx
set_option linter.unusedVariables false
set_option linter.unusedSimpArgs false

/-- What symMerge leaves. -/
def Merged (R : El → El → Prop) (b n a e0 : Nat) (d : Nat → El) (w : World) (e : Ending) (w' : World) : Prop :=
  ∃ d', e = .returned (.tuple #[]) ∧ RowD w' b n d' ∧ Shuf a e0 d d' ∧ Srt R a e0 d' ∧ Gro b w w'
/-- Where a merge is parted. -/
def Part (a m e0 mid st0 r0 p : Nat) : Prop :=
  mid = (a + e0) / 2 ∧ p + 1 = mid + m ∧ ((mid < m ∧ st0 = mid + m - e0 ∧ r0 = mid) ∨ (m ≤ mid ∧ st0 = a ∧ r0 = m))
theorem part_lo {R : El → El → Prop} (hR : Ord R) {a m e0 mid st0 r0 p st en : Nat} {d : Nat → El} (h : Part a m e0 mid st0 r0 p) (hd1 : Srt R a m d) (hd2 : Srt R m e0 d) (ham : a + 2 ≤ m) (hme : m + 2 ≤ e0) (h0 : st0 ≤ st) (hr : st ≤ r0) (hen : st + en = mid + m)
    (hi : ∀ x, st0 ≤ x → x < st → R (d x) (d (p - x))) : ∀ i j, a ≤ i → i < st → en ≤ j → j < e0 → R (d i) (d j) := fun i j q1 q2 q3 q4 => by
  obtain ⟨k1, k2, k3⟩ := h
  rcases Nat.lt_or_ge st0 st with u | u
  · have e1 := hi (st - 1) (by omega) (by omega)
    rw [show p - (st - 1) = en by omega] at e1
    have e2 : R (d i) (d (st - 1)) := hd1 _ _ q1 (by omega) (by omega)
    have e3 : R (d en) (d j) := hd2 _ _ (by omega) q3 q4
    exact hR.trans e2 (hR.trans e1 e3)
  · exfalso; omega
theorem part_hi {R : El → El → Prop} (hR : Ord R) {a m e0 mid st0 r0 p st en : Nat} {d : Nat → El} (h : Part a m e0 mid st0 r0 p) (hd1 : Srt R a m d) (hd2 : Srt R m e0 d) (ham : a + 2 ≤ m) (hme : m + 2 ≤ e0) (h0 : st0 ≤ st) (hr : st ≤ r0) (hen : st + en = mid + m)
    (hi : ∀ x, st ≤ x → x < r0 → R (d (p - x)) (d x)) : ∀ i j, m ≤ i → i < en → st ≤ j → j < m → R (d i) (d j) := fun i j q1 q2 q3 q4 => by
  obtain ⟨k1, k2, k3⟩ := h
  rcases Nat.lt_or_ge st r0 with u | u
  · have e1 := hi st (by omega) u
    rw [show p - st = en - 1 by omega] at e1
    have e2 : R (d i) (d (en - 1)) := hd2 _ _ q1 (by omega) (by omega)
    have e3 : R (d st) (d j) := hd1 _ _ (by omega) q3 q4
    exact hR.trans e2 (hR.trans e1 e3)
  · exfalso; omega
theorem Part.facts {a m e0 mid st0 r0 p : Nat} (h : Part a m e0 mid st0 r0 p) (ham : a + 2 ≤ m) (hme : m + 2 ≤ e0) : a ≤ st0 ∧ st0 ≤ r0 ∧ r0 ≤ m ∧ r0 ≤ mid ∧ a < mid ∧ mid < e0 ∧ mid + m ≤ st0 + e0 ∧ ∀ c, st0 ≤ c → c < r0 → m ≤ p - c ∧ p - c < e0 ∧ c ≤ p := by
  obtain ⟨k1, k2, k3⟩ := h
  exact ⟨by omega, by omega, by omega, by omega, by omega, by omega, by omega, fun c q1 q2 => by omega⟩
set_option maxRecDepth 100000 in
set_option maxHeartbeats 16000000 in
theorem sym_step (R : El → El → Prop) (hR : Ord R) (b n cap a m e0 : Nat) (d : Nat → El) (w : World) (hrow : RowD w b n d) (hok : AllOk w b n d) (hbw : b < w.heap.size) (he : e0 ≤ n) (ham : a + 2 ≤ m) (hme : m + 2 ≤ e0) (hn : n ≤ 10000000000000) (hcap : n ≤ cap)
    (hs1 : Srt R a m d) (hs2 : Srt R m e0 d) (htl : Tells R (fun x y => termCmp x.l y.l) a m e0 d)
    (ih : ∀ a' m' e' (d' : Nat → El) (w' : World), e' - a' < e0 - a → RowD w' b n d' → AllOk w' b n d' → b < w'.heap.size → e' ≤ n → a' < m' → m' < e' → Srt R a' m' d' → Srt R m' e' d' → Tells R (fun x y => termCmp x.l y.l) a' m' e' d' →
      Calls Tryd.prog 65 #[.slice (some ⟨b, 0, none⟩) n cap, .int .i64 a', .int .i64 m', .int .i64 e', .func (.func 46) #[] #[]] w' (Merged R b n a' e' d' w')) :
    Calls Tryd.prog 65 #[.slice (some ⟨b, 0, none⟩) n cap, .int .i64 a, .int .i64 m, .int .i64 e0, .func (.func 46) #[] #[]] w (Merged R b n a e0 d w) := by
  obtain ⟨mid, hmid⟩ : ∃ mid, mid = (a + e0) / 2 := ⟨_, rfl⟩
  obtain ⟨st0, r0, h1, h2⟩ : ∃ st0 r0, (mid < m → st0 = mid + m - e0 ∧ r0 = mid) ∧ (m ≤ mid → st0 = a ∧ r0 = m) := by
    rcases Nat.lt_or_ge mid m with v | v
    · exact ⟨mid + m - e0, mid, fun _ => ⟨rfl, rfl⟩, fun q => by omega⟩
    · exact ⟨a, m, fun q => by omega, fun _ => ⟨rfl, rfl⟩⟩
  obtain ⟨p, hp⟩ : ∃ p, p + 1 = mid + m := ⟨mid + m - 1, by omega⟩
  have hPt : Part a m e0 mid st0 r0 p := ⟨hmid, hp, by rcases Nat.lt_or_ge mid m with v | v; exact .inl ⟨v, h1 v⟩; exact .inr ⟨v, h2 v⟩⟩
  obtain ⟨f1, f2, f3, f4, f5, f6, f7, f8⟩ := hPt.facts ham hme
  have PT := Lib.hid hPt
  have F8 := Lib.hid f8
  have HST := Lib.hid h1
  have HST2 := Lib.hid h2
  have R0 := Lib.hid hrow
  have OK := Lib.hid hok
  have TL := Lib.hid htl
  have HO := Lib.hid hR
  have HS1 := Lib.hid hs1
  have HS2 := Lib.hid hs2
  have IH := Lib.hid ih
  have w0 : IntKind.i64.wrap ((m : Int) - (a : Int)) = (m : Int) - (a : Int) := by rw [IntKind.wrap_i64]; omega
  have hb0 : ((m : Int) - (a : Int) == 1) = false := by rw [beq_eq_false_iff_ne]; omega
  have w1 : IntKind.i64.wrap ((e0 : Int) - (m : Int)) = (e0 : Int) - (m : Int) := by rw [IntKind.wrap_i64]; omega
  have hb1 : ((e0 : Int) - (m : Int) == 1) = false := by rw [beq_eq_false_iff_ne]; omega
  have hmi : ((a : Int) + (e0 : Int)) / 2 = (mid : Int) := by omega
  have w2 : IntKind.i64.wrap ((mid : Int) + (m : Int)) = (mid : Int) + (m : Int) := by rw [IntKind.wrap_i64]; omega
  have w3 : IntKind.i64.wrap ((mid : Int) + (m : Int) - (e0 : Int)) = (mid : Int) + (m : Int) - (e0 : Int) := by rw [IntKind.wrap_i64]; omega
  have w4 : IntKind.i64.wrap ((mid : Int) + (m : Int) - 1) = (mid : Int) + (m : Int) - 1 := by rw [IntKind.wrap_i64]; omega
  have hpi : (mid : Int) + (m : Int) - 1 = (p : Int) := by omega
  clear hrow hok htl hR hs1 hs2 ih hPt f8 h1 h2 hp hmid
  go_enter Tryd.func65, Tryd.ntmps65
  go_upto_if 140 with (fail)
  go_cut [20, 21] from 138 to 146 (fun s20 s21 wx => s20 = .int .i64 (st0 : Int) ∧ s21 = .int .i64 (r0 : Int) ∧ wx = w)
  case first =>
    by_cases hm : mid < m
    · have hmb : (mid : Int) < (m : Int) := by omega
      obtain ⟨g1, g2⟩ := HST.out hm
      have HG1 := Lib.hid g1
      have HG2 := Lib.hid g2
      clear g1 g2
      go_wp2_with fail
      go_meet
      exact ⟨by congr 1; have := HG1.out; omega, by congr 1; have := HG2.out; omega, rfl⟩
    · have hmb : ¬ (mid : Int) < (m : Int) := by omega
      obtain ⟨g1, g2⟩ := HST2.out (by omega)
      have HG1 := Lib.hid g1
      have HG2 := Lib.hid g2
      clear g1 g2
      go_wp2_with fail
      go_meet
      exact ⟨by congr 1; have := HG1.out; omega, by congr 1; have := HG2.out; omega, rfl⟩
  case rest =>
    obtain ⟨rfl, rfl, rfl⟩ := hcut
    obtain ⟨w9, hw9⟩ : ∃ W, W = wc := ⟨_, rfl⟩
    subst hw9
    clear HST HST2
    go_wp2
    go_loopw [20, 21] (fun iv jv wr => ∃ (i j : Nat), iv = .int .i64 i ∧ jv = .int .i64 j ∧ st0 ≤ i ∧ i ≤ j ∧ j ≤ r0 ∧ Hid (RowD wr b n d) ∧ Hid (∀ x, st0 ≤ x → x < i → R (d x) (d (p - x))) ∧ Hid (∀ x, j ≤ x → x < r0 → R (d (p - x)) (d x)) ∧ Hid (Gro b w9 wr)) (fun iv jv wr => (intOf jv).toNat - (intOf iv).toNat)
    case atStart => exact ⟨st0, r0, rfl, rfl, Nat.le_refl _, f2, Nat.le_refl _, R0, fun x h1 h2 => by omega, fun x h1 h2 => by omega, Gro.refl b w9⟩
    case round =>
      clear R0
      obtain ⟨i, j, rfl, rfl, hai, hij, hje, hRw, hLo, hHi, hG⟩ := hrel
      by_cases hlt : i < j
      · have hk1 : (i : Int) < (j : Int) := by omega
        obtain ⟨h, hh⟩ : ∃ h : Nat, h = (i + j) / 2 := ⟨_, rfl⟩
        have hhi : ((i : Int) + (j : Int)) / 2 = (h : Int) := by omega
        have gi : i ≤ h := by omega
        have gj : h < j := by omega
        obtain ⟨e1, e2, e3⟩ := F8.out h (by omega) (by omega)
        have h1 := hRw.out (p - h) (by omega)
        have h2 := hRw.out h (by omega)
        have E1 := Lib.hid ((OK.out (p - h) (by omega)).grown hG.out)
        have E2 := Lib.hid ((OK.out h (by omega)).grown hG.out)
        have HT1 := Lib.hid (show termCmp (d (p - h)).l (d h).l < 0 ↔ ¬ R (d h) (d (p - h)) from TL.out h (p - h) (by omega) (by omega) (by omega) (by omega))
        have hbq : b < wr.heap.size := by have := hG.out.size; omega
        clear hh
        obtain ⟨x, hx⟩ : ∃ x, d (p - h) = x := ⟨_, rfl⟩
        obtain ⟨y, hy⟩ : ∃ y, d h = y := ⟨_, rfl⟩
        rw [hx] at h1 E1 HT1
        rw [hy] at h2 E2 HT1
        have HX := Lib.hid (⟨hx, hy⟩ : d (p - h) = x ∧ d h = y)
        clear hx hy
        obtain ⟨c1, f1'⟩ := h1
        obtain ⟨c2, f2'⟩ := h2
        rcases x with ⟨Ax, lx, kx⟩
        rcases y with ⟨Ay, ly, ky⟩
        simp only [El.val] at c1 c2
        obtain ⟨nx, hnx⟩ : ∃ m, lx.length = m := ⟨_, rfl⟩
        obtain ⟨ny, hny⟩ : ∃ m, ly.length = m := ⟨_, rfl⟩
        rw [hnx] at c1
        rw [hny] at c2
        have HNX := Lib.hid hnx
        have HNY := Lib.hid hny
        have b1 : (0 : Int) ≤ (p : Int) - (h : Int) := by omega
        have b1' : (h : Int) ≤ (p : Int) := by omega
        have d1 : (p : Int) - (h : Int) < (n : Int) := by omega
        have t1 : ((p : Int) - (h : Int)).toNat = p - h := by omega
        have b2 : (0 : Int) ≤ (h : Int) := by omega
        have d2 : (h : Int) < (n : Int) := by omega
        have w5 : IntKind.i64.wrap ((p : Int) - (h : Int)) = (p : Int) - (h : Int) := by rw [IntKind.wrap_i64]; omega
        have w6 : IntKind.i64.wrap ((h : Int) + 1) = (h : Int) + 1 := by rw [IntKind.wrap_i64]; omega
        clear hnx hny f1' f2'
        go_wp2_with fail
        go_region_held3 (fun w' => w'.cell? ⟨b, p - h, none⟩ = some (.slice Ax nx kx) ∧ w'.cell? ⟨b, h, none⟩ = some (.slice Ay ny ky))
          (first
            | exact ⟨cell_below hb c1, cell_below hb c2⟩
            | go_keep)
          ((go_at_call 46; refine (cmp_el (E1.out.below ((Below.refl _ _).drew)) (E2.out.below ((Below.refl _ _).drew)) HNX.out HNY.out).mono ?_; rintro e wv ⟨rfl, hb⟩))
        have HRc := Lib.hid (hRw.out.drew.below hbq hb)
        have HGc := Lib.hid (grown_belowS (grown_drewS hG.out) hb)
        generalize hcb : decide (termCmp lx ly < 0) = cb
        cases cb with
        | true =>
          have hcm : termCmp lx ly < 0 := of_decide_eq_true hcb
          have HL2 := Lib.hid (show ∀ x, h ≤ x → x < r0 → R (d (p - x)) (d x) from fun x q1 q2 => by
            have hha : R (d (p - h)) (d h) := by rw [HX.out.1, HX.out.2]; exact (HO.out.total _ _).resolve_left (HT1.out.1 hcm)
            have g := F8.out x (by omega) q2
            exact HO.out.trans (HS2.out (p - x) (p - h) g.1 (by omega) e2) (HO.out.trans hha (HS1.out h x (by omega) q1 (by omega))))
          clear hb c1 c2 hcb hcm
          go_wp2_with fail
          go_roundw
          case rel => exact ⟨i, h, rfl, by go_num, by omega, by omega, by omega, HRc, hLo, HL2, HGc⟩
          case measure => simp [intOf]; omega
        | false =>
          have hcm : ¬ termCmp lx ly < 0 := of_decide_eq_false hcb
          have HL2 := Lib.hid (show ∀ x, st0 ≤ x → x < h + 1 → R (d x) (d (p - x)) from fun x q1 q2 => by
            have hha : R (d h) (d (p - h)) := by rw [HX.out.1, HX.out.2]; exact Classical.not_not.1 fun q => hcm (HT1.out.2 q)
            have g := F8.out x q1 (by omega)
            exact HO.out.trans (HS1.out x h (by omega) (by omega) (by omega)) (HO.out.trans hha (HS2.out (p - h) (p - x) e1 (by omega) g.2.1)))
          clear hb c1 c2 hcb hcm
          go_wp2_with fail
          go_roundw
          case rel => exact ⟨h + 1, j, by go_num, rfl, by omega, by omega, hje, HRc, HL2, hHi, HGc⟩
          case measure => simp [intOf]; omega
      · have hk1 : ¬ (i : Int) < (j : Int) := by omega
        obtain rfl : i = j := by omega
        obtain ⟨en, hen⟩ : ∃ en, i + en = mid + m := ⟨mid + m - i, by omega⟩
        have HLO := Lib.hid (part_lo HO.out PT.out HS1.out HS2.out ham hme hai hje hen hLo.out)
        have HHI := Lib.hid (part_hi HO.out PT.out HS1.out HS2.out ham hme hai hje hen hHi.out)
        obtain ⟨wo, hwo⟩ : ∃ W, W = wr := ⟨_, rfl⟩
        subst hwo
        have k1 : i ≤ m := by omega
        have k2 : m ≤ en := by omega
        have k3 : en ≤ e0 := by omega
        have k4 : i ≤ mid := by omega
        have k5 : mid ≤ en := by omega
        have w5 : IntKind.i64.wrap ((mid : Int) + (m : Int) - (i : Int)) = (mid : Int) + (m : Int) - (i : Int) := by rw [IntKind.wrap_i64]; omega
        have heni : (mid : Int) + (m : Int) - (i : Int) = (en : Int) := by omega
        have hbo : b < wo.heap.size := by have := hG.out.size; omega
        clear hLo hHi PT F8
        go_upto_region 39 with (fail)
        go_cut [185] from 178 to 185 (fun s wx => s = .bool (decide (i < m ∧ m < en)) ∧ wx = wo)
        case first =>
          by_cases q1 : i < m
          · have q1' : (i : Int) < (m : Int) := by omega
            by_cases q2 : m < en
            · have q2' : (m : Int) < (en : Int) := by omega
              have Q := Lib.hid (decide_eq_true (⟨q1, q2⟩ : i < m ∧ m < en))
              clear q1 q2
              go_wp2_with fail
              go_meet
              exact ⟨by rw [Q.out], rfl⟩
            · have q2' : ¬ (m : Int) < (en : Int) := by omega
              have Q := Lib.hid (decide_eq_false (fun k => q2 k.2 : ¬ (i < m ∧ m < en)))
              clear q1 q2
              go_wp2_with fail
              go_meet
              exact ⟨by rw [Q.out], rfl⟩
          · have q1' : ¬ (i : Int) < (m : Int) := by omega
            have Q := Lib.hid (decide_eq_false (fun k => q1 k.1 : ¬ (i < m ∧ m < en)))
            clear q1
            go_wp2_with fail
            go_meet
            exact ⟨by rw [Q.out], rfl⟩
        case rest =>
          obtain ⟨rfl, rfl⟩ := hcut
          obtain ⟨wo, hw9⟩ : ∃ W, W = wc := ⟨_, rfl⟩
          subst hw9
          go_upto_if 185 with (fail)
          go_cut [] from 185 to 191 (fun wx => Hid (RowD wx b n (rot d i m en)) ∧ Hid (Gro b w9 wx))
          case first =>
            by_cases q : i < m ∧ m < en
            · have qd : decide (i < m ∧ m < en) = true := decide_eq_true q
              rw [qd]
              go_wp2_with fail
              refine (rotate_any _ b n cap i m en d _ hRw.out q.1 q.2 (by omega) hn hcap).mono ?_
              rintro e w5 ⟨rfl, hR5, hg5⟩
              have HR5 := Lib.hid hR5
              have HG5 := Lib.hid (hG.out.trans hg5)
              clear hR5 hg5
              go_wp2
              go_meet
              exact ⟨HR5, HG5⟩
            · have qd : decide (i < m ∧ m < en) = false := decide_eq_false q
              rw [qd]
              have HR5 := Lib.hid (show RowD wo b n (rot d i m en) by rw [rot_none (by omega)]; exact hRw.out)
              go_wp2
              go_meet
              exact ⟨HR5, hG⟩
          case rest =>
            obtain ⟨hRw2, hG2⟩ := hcut
            obtain ⟨wo2, hw9⟩ : ∃ W, W = wc := ⟨_, rfl⟩
            subst hw9
            have SHR := Lib.hid (shuf_rot d k1 k2)
            have OK2 := Lib.hid (OK.out.shuf SHR.out (by omega) hG2.out)
            have hbo2 : b < wo2.heap.size := by have := hG2.out.size; omega
            have L1 := Lib.hid (rot_left (mid := mid) (en := en) HS1.out (by omega) k1 k2 hen k4)
            have L2 := Lib.hid (rot_mid (mid := mid) (st := i) HS2.out k1 k2 k3 hen)
            have L3 := Lib.hid (rot_mid2 (mid := mid) HS1.out (by omega : a ≤ i) k1 k2 hen)
            have L4 := Lib.hid (rot_right (mid := mid) (st := i) HS2.out k2)
            have T1 := Lib.hid (tells_left (mid := mid) TL.out (by omega : a ≤ i) k1 k2 k3 hen)
            have T2 := Lib.hid (tells_right (mid := mid) TL.out (by omega : a ≤ i) k1 k2 k3 hen)
            clear hRw hG hbo
            go_upto_region 41 with (fail)
            go_cut [199] from 192 to 199 (fun s wx => s = .bool (decide (a < i ∧ i < mid)) ∧ wx = wo2)
            case first =>
              by_cases q1 : a < i
              · have q1' : (a : Int) < (i : Int) := by omega
                by_cases q2 : i < mid
                · have q2' : (i : Int) < (mid : Int) := by omega
                  have Q := Lib.hid (decide_eq_true (⟨q1, q2⟩ : a < i ∧ i < mid))
                  clear q1 q2
                  go_wp2_with fail
                  go_meet
                  exact ⟨by rw [Q.out], rfl⟩
                · have q2' : ¬ (i : Int) < (mid : Int) := by omega
                  have Q := Lib.hid (decide_eq_false (fun k => q2 k.2 : ¬ (a < i ∧ i < mid)))
                  clear q1 q2
                  go_wp2_with fail
                  go_meet
                  exact ⟨by rw [Q.out], rfl⟩
              · have q1' : ¬ (a : Int) < (i : Int) := by omega
                have Q := Lib.hid (decide_eq_false (fun k => q1 k.1 : ¬ (a < i ∧ i < mid)))
                clear q1
                go_wp2_with fail
                go_meet
                exact ⟨by rw [Q.out], rfl⟩
            case rest =>
              obtain ⟨rfl, rfl⟩ := hcut
              obtain ⟨wo2, hw9⟩ : ∃ W, W = wc := ⟨_, rfl⟩
              subst hw9
              go_upto_if 199 with (fail)
              go_cut [] from 199 to 205 (fun wx => ∃ e : Nat → El, Hid (RowD wx b n e) ∧ Hid (Shuf a mid (rot d i m en) e) ∧ Hid (Srt R a mid e) ∧ Hid (Gro b w9 wx))
              case first =>
                by_cases q : a < i ∧ i < mid
                · have qd : decide (a < i ∧ i < mid) = true := decide_eq_true q
                  rw [qd]
                  go_wp2_with fail
                  refine (IH.out a i mid (rot d i m en) _ (by omega) hRw2.out OK2.out hbo2 (by omega) q.1 q.2 L1.out L2.out T1.out).mono ?_
                  rintro e w5 ⟨d5, rfl, hR5, hS5, hT5, hg5⟩
                  have HR5 := Lib.hid hR5
                  have HS5 := Lib.hid hS5
                  have HT5 := Lib.hid hT5
                  have HG5 := Lib.hid (hG2.out.trans hg5)
                  clear hR5 hS5 hT5 hg5
                  go_wp2
                  go_meet
                  exact ⟨d5, HR5, HS5, HT5, HG5⟩
                · have qd : decide (a < i ∧ i < mid) = false := decide_eq_false q
                  rw [qd]
                  have HT5 := Lib.hid (show Srt R a mid (rot d i m en) by
                    rcases Nat.lt_or_ge a i with v | v
                    · obtain rfl : i = mid := by omega
                      exact L1.out
                    · obtain rfl : a = i := by omega
                      exact L2.out)
                  go_wp2
                  go_meet
                  exact ⟨_, hRw2, Shuf.refl _ _ _, HT5, hG2⟩
              case rest =>
                obtain ⟨d2, hRw3, hSh2, hSr2, hG3⟩ := hcut
                obtain ⟨wo3, hw9⟩ : ∃ W, W = wc := ⟨_, rfl⟩
                subst hw9
                have OK3 := Lib.hid (show AllOk wo3 b n d2 from OK.out.shuf ((SHR.out.mono (by omega) (by omega)).trans (hSh2.out.mono (Nat.le_refl _) (by omega)) : Shuf a e0 d d2) he hG3.out)
                have hbo3 : b < wo3.heap.size := by have := hG3.out.size; omega
                have hout : ∀ x, mid ≤ x → d2 x = rot d i m en x := fun x hx => hSh2.out.out (.inr hx)
                have M1 := Lib.hid (L3.out.congr fun x q1 q2 => hout x q1)
                have M2 := Lib.hid (L4.out.congr fun x q1 q2 => hout x (by omega))
                have T3 := Lib.hid (show Tells R (fun x y => termCmp x.l y.l) mid en e0 d2 from fun x y q1 q2 q3 q4 => by rw [hout x q1, hout y (by omega)]; exact T2.out x y q1 q2 q3 q4)
                clear hout hRw2 hG2 hbo2
                go_upto_region 43 with (fail)
                go_cut [213] from 206 to 213 (fun s wx => s = .bool (decide (mid < en ∧ en < e0)) ∧ wx = wo3)
                case first =>
                  by_cases q1 : mid < en
                  · have q1' : (mid : Int) < (en : Int) := by omega
                    by_cases q2 : en < e0
                    · have q2' : (en : Int) < (e0 : Int) := by omega
                      have Q := Lib.hid (decide_eq_true (⟨q1, q2⟩ : mid < en ∧ en < e0))
                      clear q1 q2
                      go_wp2_with fail
                      go_meet
                      exact ⟨by rw [Q.out], rfl⟩
                    · have q2' : ¬ (en : Int) < (e0 : Int) := by omega
                      have Q := Lib.hid (decide_eq_false (fun k => q2 k.2 : ¬ (mid < en ∧ en < e0)))
                      clear q1 q2
                      go_wp2_with fail
                      go_meet
                      exact ⟨by rw [Q.out], rfl⟩
                  · have q1' : ¬ (mid : Int) < (en : Int) := by omega
                    have Q := Lib.hid (decide_eq_false (fun k => q1 k.1 : ¬ (mid < en ∧ en < e0)))
                    clear q1
                    go_wp2_with fail
                    go_meet
                    exact ⟨by rw [Q.out], rfl⟩
                case rest =>
                  obtain ⟨rfl, rfl⟩ := hcut
                  obtain ⟨wo3, hw9⟩ : ∃ W, W = wc := ⟨_, rfl⟩
                  subst hw9
                  by_cases q : mid < en ∧ en < e0
                  · have qd : decide (mid < en ∧ en < e0) = true := decide_eq_true q
                    rw [qd]
                    go_wp2_with fail
                    refine (IH.out mid en e0 d2 _ (by omega) hRw3.out OK3.out hbo3 he q.1 q.2 M1.out M2.out T3.out).mono ?_
                    rintro e w5 ⟨d5, rfl, hR5, hS5, hT5, hg5⟩
                    have HR5 := Lib.hid hR5
                    have HG5 := Lib.hid (hG3.out.trans hg5)
                    have HJ := Lib.hid (sym_join HO.out HS1.out HS2.out (by omega) k1 k2 k3 hen k4 k5 HLO.out HHI.out hSh2.out hS5 hSr2.out hT5)
                    clear hR5 hS5 hT5 hg5
                    go_wp2
                    go_end0
                    exact ⟨d5, rfl, HR5.out, HJ.out.2, HJ.out.1, HG5.out⟩
                  · have qd : decide (mid < en ∧ en < e0) = false := decide_eq_false q
                    rw [qd]
                    have HT5 := Lib.hid (show Srt R mid e0 d2 by
                      rcases Nat.lt_or_ge mid en with v | v
                      · obtain rfl : en = e0 := by omega
                        exact M1.out
                      · obtain rfl : mid = en := by omega
                        exact M2.out)
                    have HJ := Lib.hid (sym_join HO.out HS1.out HS2.out (by omega) k1 k2 k3 hen k4 k5 HLO.out HHI.out hSh2.out (Shuf.refl _ _ _) hSr2.out HT5.out)
                    go_wp2
                    go_end0
                    exact ⟨d2, rfl, hRw3.out, HJ.out.2, HJ.out.1, hG3.out⟩
end Go.Proofs.YtfeaolnklooanaaDoor.Tm
