/- Rows of terms that are sorted in place: the stable sort. -/
import Derived.Test.YtfeaolnklooanaaDoorSrtN
namespace Go.Proofs.YtfeaolnklooanaaDoor.Tm
open Go.RowKit Go.Proofs.YtfeaolnklooanaaDoor.Sx
set_option linter.unusedVariables false
set_option linter.unusedSimpArgs false

theorem sym_any (R : El → El → Prop) (hR : Ord R) (b n cap : Nat) (hn : n ≤ 10000000000000) (hcap : n ≤ cap) : ∀ (k a m e0 : Nat) (d : Nat → El) (w : World), e0 - a ≤ k → RowD w b n d → AllOk w b n d → b < w.heap.size → e0 ≤ n → a < m → m < e0 → Srt R a m d → Srt R m e0 d → Tells R (fun x y => termCmp x.l y.l) a m e0 d →
    Calls Tryd.prog 65 #[.slice (some ⟨b, 0, none⟩) n cap, .int .i64 a, .int .i64 m, .int .i64 e0, .func (.func 46) #[] #[]] w (Merged R b n a e0 d w)
  | 0, a, m, e0, d, w, hk, hrow, hok, hbw, he, ham, hme, hs1, hs2, htl => by omega
  | k + 1, a, m, e0, d, w, hk, hrow, hok, hbw, he, ham, hme, hs1, hs2, htl => by
    by_cases h1 : m = a + 1
    · subst h1
      have e : ((a + 1 : Nat) : Int) = (a : Int) + 1 := by omega
      rw [e]
      exact sym_left R hR b n cap a e0 d w hrow hok hbw he hme hn hcap hs2 htl
    · by_cases h2 : e0 = m + 1
      · subst h2
        have e : ((m + 1 : Nat) : Int) = (m : Int) + 1 := by omega
        rw [e]
        exact sym_right R hR b n cap a m d w hrow hok hbw he (by omega) hn hcap hs1 htl
      · exact sym_step R hR b n cap a m e0 d w hrow hok hbw he (by omega) (by omega) hn hcap hs1 hs2 htl fun a' m' e' d' w' hlt h3 h4 h5 h6 h7 h8 h9 h10 h11 =>
          sym_any R hR b n cap hn hcap k a' m' e' d' w' (by omega) h3 h4 h5 h6 h7 h8 h9 h10 h11
/-- Runs in order from a on. -/
inductive Runs (R : El → El → Prop) (cur : Nat → El) (B n : Nat) : Nat → Prop
  | done (a : Nat) (h : n ≤ a) : Runs R cur B n a
  | run (a : Nat) (h : Srt R a (min (a + B) n) cur) (k : Runs R cur B n (a + B)) : Runs R cur B n a
/-- Whole runs up to a. -/
inductive Pre (R : El → El → Prop) (cur : Nat → El) (B : Nat) : Nat → Prop
  | zero : Pre R cur B 0
  | step (a : Nat) (h : Pre R cur B a) (k : Srt R a (a + B) cur) : Pre R cur B (a + B)
section
variable {R : El → El → Prop} {cur cur' : Nat → El} {B n : Nat}
theorem Runs.congr {a : Nat} (h : Runs R cur B n a) : (∀ x, a ≤ x → x < n → cur' x = cur x) → Runs R cur' B n a := by
  induction h with
  | done a h => exact fun _ => .done a h
  | run a h k ih => exact fun e => .run a (h.congr fun x h1 h2 => e x h1 (by omega)) (ih fun x h1 h2 => e x (by omega) h2)
theorem Pre.congr {a : Nat} (h : Pre R cur B a) : (∀ x, x < a → cur' x = cur x) → Pre R cur' B a := by
  induction h with
  | zero => exact fun _ => .zero
  | step a h k ih => exact fun e => .step a (ih fun x h1 => e x (by omega)) (k.congr fun x h1 h2 => e x h2)
theorem Pre.join {a : Nat} (h : Pre R cur B a) : a ≤ n → Runs R cur B n a → Runs R cur B n 0 := by
  induction h with
  | zero => exact fun _ k => k
  | step a h k ih => exact fun hn hr => ih (by omega) (.run a (by rw [Nat.min_eq_left hn]; exact k) hr)
theorem Runs.two {a : Nat} (h : Runs R cur B n a) (hB : 0 < B) (hn : a + B < n) : Srt R a (a + B) cur ∧ Srt R (a + B) (min (a + B + B) n) cur ∧ Runs R cur B n (a + B + B) := by
  cases h with
  | done _ h => omega
  | run _ h k =>
    rw [Nat.min_eq_left (by omega)] at h
    cases k with
    | done _ k => omega
    | run _ h2 k2 => exact ⟨h, h2, k2⟩
theorem Runs.one {a : Nat} (hR : Ord R) (h : Runs R cur B n a) (hn : n ≤ a + B) : Srt R a n cur := by
  cases h with
  | done _ h => exact Srt.one hR (by omega) _
  | run _ h k => rwa [Nat.min_eq_right hn] at h
end
/-- The comparison tells of all pairs. -/
def TellsAll (R : El → El → Prop) (n : Nat) (d : Nat → El) : Prop := ∀ i j, i < n → j < n → (termCmp (d j).l (d i).l < 0 ↔ ¬ R (d i) (d j))
theorem TellsAll.shuf {R : El → El → Prop} {n x y : Nat} {d e : Nat → El} (h : TellsAll R n d) (s : Shuf x y d e) (hy : y ≤ n) : TellsAll R n e := fun i j hi hj => by
  have hs : ∀ i, i < n → ∃ i', i' < n ∧ e i = d i' := fun i hi => by
    by_cases hin : x ≤ i ∧ i < y
    · obtain ⟨q, q1, q2, q3⟩ := s.src hin.1 hin.2
      exact ⟨q, by omega, q3⟩
    · exact ⟨i, hi, s.out (by omega)⟩
  obtain ⟨i', q1, q2⟩ := hs i hi
  obtain ⟨j', p1, p2⟩ := hs j hj
  rw [q2, p2]
  exact h i' j' q1 p1
set_option maxRecDepth 100000 in
set_option maxHeartbeats 8000000 in
theorem stable_any (R : El → El → Prop) (hR : Ord R) (b n cap : Nat) (d : Nat → El) (w : World) (hrow : RowD w b n d) (hok : AllOk w b n d) (hbw : b < w.heap.size) (hn : n ≤ 10000000000000) (hcap : n ≤ cap) (htl : TellsAll R n d) :
    Calls Tryd.prog 59 #[.slice (some ⟨b, 0, none⟩) n cap, .int .i64 n, .func (.func 46) #[] #[]] w (Merged R b n 0 n d w) := by
  have R0 := Lib.hid hrow
  have OK := Lib.hid hok
  have TL := Lib.hid htl
  have HO := Lib.hid hR
  clear hrow hok htl hR
  go_enter Tryd.func59, Tryd.ntmps59
  go_wp2
  go_loopw [7, 8] (fun av bv wr => ∃ (a : Nat) (cur : Nat → El), av = .int .i64 a ∧ bv = .int .i64 ((a : Int) + 20) ∧ a ≤ n ∧ Hid (RowD wr b n cur) ∧ Hid (Shuf 0 n d cur) ∧ Hid (Pre R cur 20 a) ∧ Hid (Gro b w wr)) (fun av bv wr => n - (intOf av).toNat)
  case atStart => exact ⟨0, d, rfl, rfl, Nat.zero_le _, R0, Shuf.refl _ _ _, Pre.zero, Gro.refl b w⟩
  case round =>
    clear R0
    obtain ⟨a, cur, rfl, rfl, han, hRw, hSh, hPr, hG⟩ := hrel
    have w1 : IntKind.i64.wrap ((a : Int) + 20 + 20) = (a : Int) + 20 + 20 := by rw [IntKind.wrap_i64]; omega
    have OKc := Lib.hid (OK.out.shuf hSh.out (Nat.le_refl _) hG.out)
    have TLc := Lib.hid (TL.out.shuf hSh.out (Nat.le_refl _))
    have hbo : b < wr.heap.size := by have := hG.out.size; omega
    by_cases hlt : a + 20 ≤ n
    · have hk1 : (a : Int) + 20 ≤ (n : Int) := by omega
      have hcs : ((a + 20 : Nat) : Int) = (a : Int) + 20 := by omega
      have HI := Lib.hid (insertion_any R HO.out b n cap a (a + 20) cur wr hRw.out OKc.out hbo hlt (by omega) hn hcap fun i j h1 h2 h3 => TLc.out i j (by omega) (by omega))
      rw [hcs] at HI
      clear hcs
      go_wp2_with fail
      refine HI.out.mono ?_
      rintro e w5 ⟨d5, rfl, hR5, hS5, hT5, hg5⟩
      have HR5 := Lib.hid hR5
      have HS5 := Lib.hid (hSh.out.trans (hS5.mono (Nat.zero_le _) hlt))
      have HP5 := Lib.hid (Pre.step a (hPr.out.congr fun x hx => hS5.out (.inl hx)) hT5)
      have HG5 := Lib.hid (hG.out.trans hg5)
      clear hR5 hS5 hT5 hg5 HI
      go_wp2
      go_roundw
      case rel => exact ⟨a + 20, d5, by go_num, by go_num, hlt, HR5, HS5, HP5, HG5⟩
      case measure => simp [intOf]; omega
    · have hk1 : ¬ (a : Int) + 20 ≤ (n : Int) := by omega
      have HI := Lib.hid (insertion_any R HO.out b n cap a n cur wr hRw.out OKc.out hbo (Nat.le_refl _) han hn hcap fun i j h1 h2 h3 => TLc.out i j (by omega) h3)
      go_wp2_with fail
      refine HI.out.mono ?_
      rintro e w5 ⟨d5, rfl, hR5, hS5, hT5, hg5⟩
      have R5 := Lib.hid hR5
      have HS5 := Lib.hid (hSh.out.trans (hS5.mono (Nat.zero_le _) (Nat.le_refl _)))
      have HP5 := Lib.hid ((hPr.out.congr fun x hx => hS5.out (.inl hx)).join han (.run a (by rw [Nat.min_eq_right (by omega)]; exact hT5) (.done _ (by omega))))
      have HG5 := Lib.hid (hG.out.trans hg5)
      clear hR5 hS5 hT5 hg5 HI hRw hSh hPr hG OKc TLc hbo w1 hk1 hlt
      go_wp2
      obtain ⟨w9, hw9⟩ : ∃ W, W = w := ⟨_, rfl⟩
      subst hw9
      go_loopw [6] (fun Bv wr => ∃ (B : Nat) (cur : Nat → El), Bv = .int .i64 B ∧ 20 ≤ B ∧ (B ≤ n + n ∨ B = 20) ∧ Hid (RowD wr b n cur) ∧ Hid (Shuf 0 n d cur) ∧ Hid (Runs R cur B n 0) ∧ Hid (Gro b w9 wr)) (fun Bv wr => n - (intOf Bv).toNat)
      case atStart => exact ⟨20, d5, rfl, Nat.le_refl _, .inr rfl, R5, HS5, HP5, HG5⟩
      case round =>
        clear R5 HS5 HP5 HG5
        obtain ⟨B, cur, rfl, hB20, hBn, hRw, hSh, hRu, hG⟩ := hrel
        by_cases hlt2 : B < n
        · have hk2 : (B : Int) < (n : Int) := by omega
          have w1 : IntKind.i64.wrap (2 * (B : Int)) = 2 * (B : Int) := by rw [IntKind.wrap_i64]; omega
          have w2 : IntKind.i64.wrap ((B : Int) * 2) = (B : Int) * 2 := by rw [IntKind.wrap_i64]; omega
          obtain ⟨wo, hwo⟩ : ∃ W, W = wr := ⟨_, rfl⟩
          subst hwo
          go_wp2
          go_loopw [7, 8] (fun av bv wr => ∃ (a : Nat) (cu : Nat → El), av = .int .i64 a ∧ bv = .int .i64 ((a : Int) + 2 * (B : Int)) ∧ a ≤ n ∧ Hid (RowD wr b n cu) ∧ Hid (Shuf 0 n d cu) ∧ Hid (Pre R cu (B + B) a) ∧ Hid (Runs R cu B n a) ∧ Hid (Gro b w9 wr)) (fun av bv wr => n - (intOf av).toNat)
          case atStart => exact ⟨0, cur, rfl, by go_num, Nat.zero_le _, hRw, hSh, Pre.zero, hRu, hG⟩
          case round =>
            clear hRw hSh hRu hG
            obtain ⟨a, cu, rfl, rfl, han, hRw, hSh, hPr, hRu, hG⟩ := hrel
            have w3 : IntKind.i64.wrap ((a : Int) + (B : Int)) = (a : Int) + (B : Int) := by rw [IntKind.wrap_i64]; omega
            have w4 : IntKind.i64.wrap ((a : Int) + 2 * (B : Int) + 2 * (B : Int)) = (a : Int) + 2 * (B : Int) + 2 * (B : Int) := by rw [IntKind.wrap_i64]; omega
            have OKc := Lib.hid (OK.out.shuf hSh.out (Nat.le_refl _) hG.out)
            have TLc := Lib.hid (TL.out.shuf hSh.out (Nat.le_refl _))
            have hbo : b < wr.heap.size := by have := hG.out.size; omega
            by_cases hlt3 : a + B + B ≤ n
            · have hk3 : (a : Int) + 2 * (B : Int) ≤ (n : Int) := by omega
              obtain ⟨u1, u2, u3⟩ := hRu.out.two (by omega) (by omega)
              rw [Nat.min_eq_left hlt3] at u2
              have hc1 : ((a + B : Nat) : Int) = (a : Int) + (B : Int) := by omega
              have hc2 : ((a + B + B : Nat) : Int) = (a : Int) + 2 * (B : Int) := by omega
              have HI := Lib.hid (sym_any R HO.out b n cap hn hcap (B + B) a (a + B) (a + B + B) cu wr (by omega) hRw.out OKc.out hbo hlt3 (by omega) (by omega) u1 u2 fun i j h1 h2 h3 h4 => TLc.out i j (by omega) (by omega))
              rw [hc1, hc2] at HI
              have U3 := Lib.hid u3
              clear hc1 hc2 u1 u2 u3
              go_wp2_with fail
              refine HI.out.mono ?_
              rintro e w5 ⟨d6, rfl, hR5, hS5, hT5, hg5⟩
              have HR5 := Lib.hid hR5
              have HS5 := Lib.hid (hSh.out.trans (hS5.mono (Nat.zero_le _) hlt3))
              have HP5 := Lib.hid (show Pre R d6 (B + B) (a + (B + B)) from Pre.step a (hPr.out.congr fun x hx => hS5.out (.inl hx)) (by rw [← Nat.add_assoc]; exact hT5))
              have HU5 := Lib.hid (show Runs R d6 B n (a + (B + B)) by rw [← Nat.add_assoc]; exact U3.out.congr fun x hx _ => hS5.out (.inr hx))
              have HG5 := Lib.hid (hG.out.trans hg5)
              clear hR5 hS5 hT5 hg5 HI
              go_wp2
              go_roundw
              case rel => exact ⟨a + (B + B), d6, by go_num, by go_num, by omega, HR5, HS5, HP5, HU5, HG5⟩
              case measure => simp [intOf]; omega
            · have hk3 : ¬ (a : Int) + 2 * (B : Int) ≤ (n : Int) := by omega
              by_cases hlt4 : a + B < n
              · have hk4 : (a : Int) + (B : Int) < (n : Int) := by omega
                obtain ⟨u1, u2, u3⟩ := hRu.out.two (by omega) hlt4
                rw [Nat.min_eq_right (by omega)] at u2
                have hc1 : ((a + B : Nat) : Int) = (a : Int) + (B : Int) := by omega
                have HI := Lib.hid (sym_any R HO.out b n cap hn hcap n a (a + B) n cu wr (by omega) hRw.out OKc.out hbo (Nat.le_refl _) (by omega) hlt4 u1 u2 fun i j h1 h2 h3 h4 => TLc.out i j (by omega) (by omega))
                rw [hc1] at HI
                clear hc1 u1 u2 u3
                go_wp2_with fail
                refine HI.out.mono ?_
                rintro e w5 ⟨d6, rfl, hR5, hS5, hT5, hg5⟩
                have HR5 := Lib.hid hR5
                have HS5 := Lib.hid (hSh.out.trans (hS5.mono (Nat.zero_le _) (Nat.le_refl _)))
                have HP5 := Lib.hid (show Runs R d6 (B + B) n 0 from (hPr.out.congr fun x hx => hS5.out (.inl hx)).join han (.run a (by rw [Nat.min_eq_right (by omega)]; exact hT5) (.done _ (by omega))))
                have HG5 := Lib.hid (hG.out.trans hg5)
                clear hR5 hS5 hT5 hg5 HI
                go_wp2
                go_roundw
                case rel => exact ⟨B + B, d6, by go_num, by omega, by omega, HR5, HS5, HP5, HG5⟩
                case measure => simp [intOf]; omega
              · have hk4 : ¬ (a : Int) + (B : Int) < (n : Int) := by omega
                have HP5 := Lib.hid (show Runs R cu (B + B) n 0 from hPr.out.join han (.run a (by rw [Nat.min_eq_right (by omega)]; exact hRu.out.one HO.out (by omega)) (.done _ (by omega))))
                go_wp2
                go_roundw
                case rel => exact ⟨B + B, cu, by go_num, by omega, by omega, hRw, hSh, HP5, hG⟩
                case measure => simp [intOf]; omega
        · have hk2 : ¬ (B : Int) < (n : Int) := by omega
          have HS6 := Lib.hid (hRu.out.one HO.out (by omega))
          go_wp2
          go_end0
          exact ⟨cur, rfl, hRw.out, hSh.out, HS6.out, hG.out⟩
end Go.Proofs.YtfeaolnklooanaaDoor.Tm
