/- The parts of a term, of both texts. -/
import Derived.Test.YtfeaolnklooanaaDoorPatQ
import Derived.Test.YtfeaolnklooanaaDoorMid
import Derived.Test.YtfeaolnklooanaaDoorEnd
namespace Go.Proofs.YtfeaolnklooanaaDoor.Tm
open Go.RowKit
set_option linter.unusedVariables false
set_option linter.unusedSimpArgs false

def partsK : Nat → List CellD → List (List CellD)
  | 0, _ => []
  | k + 1, l => l.take (spanK l 1) :: partsK k (skipK l 1)
def partsE : List CellD → List (List CellD)
  | [] => []
  | c :: l => partsK (kidsD c) l
/-- A row of the call's own of slices that read as lists. -/
def SlsAt (w : World) (base : Nat) (A : Option Addr) (cap : Nat) (ls : List (List CellD)) : Prop :=
  ∃ vs : List Value, w.ownsRow base 22 1 (.slice A ls.length cap) ls.length vs ∧ Each (fun A c l => l.length ≤ c ∧ Reads w A l) vs ls
theorem SlsAt.below {w W : World} {base cap : Nat} {A : Option Addr} {ls : List (List CellD)} (h : SlsAt w base A cap ls) (hB : Below w.heap.size w W) : SlsAt W base A cap ls := by
  obtain ⟨vs, h1, h2⟩ := h
  exact ⟨vs, row_below h1 hB, h2.mono fun _ _ _ p => ⟨p.1, p.2.below hB⟩⟩
theorem SlsAt.reads {w : World} {base cap : Nat} {A : Option Addr} {ls : List (List CellD)} (h : SlsAt w base A cap ls) : Reads2 w A ls := by
  obtain ⟨vs, h1, h2⟩ := h
  exact Reads2.of_row (rest := []) (by rw [List.append_nil]; exact h1) h2 fun _ _ _ p => p
theorem partsK_len : ∀ (k : Nat) (l : List CellD), (partsK k l).length = k
  | 0, l => rfl
  | k + 1, l => by rw [partsK, List.length_cons, partsK_len k]
theorem partsE_len (t : List CellD) : (partsE t).length ≤ 255 := by
  cases t with
  | nil => simp [partsE]
  | cons c l => rw [partsE, partsK_len]; exact kidsD_le c
theorem partsK_small : ∀ (k : Nat) (l : List CellD), ∀ p ∈ partsK k l, p.length ≤ l.length
  | 0, l, p, h => by cases h
  | k + 1, l, p, h => by
    rw [partsK] at h
    rcases List.mem_cons.1 h with rfl | h
    · rw [List.length_take]; omega
    · have := partsK_small k _ p h
      unfold skipK at this
      rw [List.length_drop] at this
      omega
theorem partsE_small (t : List CellD) : ∀ p ∈ partsE t, p.length ≤ t.length := by
  cases t with
  | nil => intro p h; cases h
  | cons c l => intro p h; have := partsK_small _ _ p h; simp; omega
theorem parts_start {t : List CellD} (h : (rightE t).1 = 0) : ∃ c l, t = c :: l ∧ Wf l (kidsD c : Int) ∧ partsE t = partsK (kidsD c) l := by
  have hg := (rightE_ok h).1.wf
  cases t with
  | nil => exact absurd hg (by simp [Wf])
  | cons c l => exact ⟨c, l, rfl, by have := hg.2; simpa using this, rfl⟩
/-- One round, over plain lists. -/
theorem parts_step {t : List CellD} {m k : Nat} {ls : List (List CellD)} (hW : Wf (t.drop m) (k : Int)) (hE : ls ++ partsK k (t.drop m) = partsE t) (hm : m < t.length) :
    ∃ m2 k2 : Nat, k = k2 + 1 ∧ endE t m = ((m2 : Int), 0) ∧ m2 ≤ t.length ∧ m < m2 ∧ ((t.drop m).take (m2 - m)).length = m2 - m ∧ Wf (t.drop m2) (k2 : Int) ∧ (ls ++ [(t.drop m).take (m2 - m)]) ++ partsK k2 (t.drop m2) = partsE t := by
  have hne : t.drop m ≠ [] := fun e => by have := congrArg List.length e; rw [List.length_drop] at this; simp at this; omega
  have ho := hW.pos hne
  obtain ⟨k2, rfl⟩ : ∃ k2, k = k2 + 1 := ⟨k - 1, by omega⟩
  obtain ⟨h1, h2, h3⟩ := endE_suffix hW ho hm
  have hs := hW.skip (k := 1) (by omega)
  have hd := drop_span (l := t) m 1
  refine ⟨m + spanK (t.drop m) 1, k2, rfl, h1, h2, h3, ?_, ?_, ?_⟩
  · rw [List.length_take, List.length_drop]; omega
  · rw [hd]; have : ((k2 + 1 : Nat) : Int) - (1 : Nat) = (k2 : Int) := by omega
    rw [this] at hs; exact hs
  · rw [hd, Nat.add_sub_cancel_left, ← hE, partsK, List.append_assoc]; rfl
/-- Such a row whose slices lie in one block. -/
def SlsB (w : World) (base : Nat) (A : Option Addr) (cap b : Nat) (ls : List (List CellD)) : Prop :=
  ∃ vs : List Value, w.ownsRow base 22 1 (.slice A ls.length cap) ls.length vs ∧ Each (fun A c l => l.length ≤ c ∧ Reads w A l ∧ ∃ o', A = some ⟨b, o', none⟩) vs ls
theorem SlsB.at_ {w : World} {base cap b : Nat} {A : Option Addr} {ls : List (List CellD)} (h : SlsB w base A cap b ls) : SlsAt w base A cap ls := by
  obtain ⟨vs, h1, h2⟩ := h
  exact ⟨vs, h1, h2.mono fun _ _ _ p => ⟨p.1, p.2.1⟩⟩
set_option maxRecDepth 100000 in
set_option maxHeartbeats 4000000 in
theorem partsB_any (t : List CellD) (B : Option Addr) (ct : Nat) (w : World) (ht : Reads w B t) (hct : t.length ≤ ct) (et : (rightE t).1 = 0) :
    Calls Tryd.prog 35 #[.slice B t.length ct] w fun e w' => ∃ A' c' b o, B = some ⟨b, o, none⟩ ∧ e = .returned (.slice A' (partsE t).length c') ∧ SlsB w' w.heap.size A' c' b (partsE t) ∧ Below w.heap.size w w' := by
  obtain ⟨i0, hi, hz0, hz1, hz2⟩ := info_parts sl_info
  have HT := Lib.hid ht
  have htl := (rightE_ok et).2.2
  obtain ⟨c0, l0, e0, hw0, hp0⟩ := parts_start et
  have hpos : 1 ≤ t.length := by rw [e0]; simp
  have W0 := Lib.hid (show Wf (t.drop 1) (kidsD c0 : Int) by rw [e0]; exact hw0)
  have E0 := Lib.hid (show [] ++ partsK (kidsD c0) (t.drop 1) = partsE t by rw [hp0, e0]; rfl)
  clear ht et hw0 hp0 e0
  obtain ⟨b, o, hA, _⟩ := HT.out 0 hpos
  subst hA
  go_enter Tryd.func35, Tryd.ntmps35
  go_wp2_with fail
  go_loopw [3, 4] (fun v a wr => ∃ (m k : Nat) (A' : Option Addr) (c' : Nat) (vs : List Value) (ls : List (List CellD)), 1 ≤ m ∧ m ≤ t.length ∧ ls.length ≤ m ∧ a = .int .i64 m ∧ v = .slice A' ls.length c' ∧ Hid (wr.ownsRow w.heap.size 22 1 (.slice A' ls.length c') ls.length vs) ∧ Hid (Each (fun A c l => l.length ≤ c ∧ Reads w A l ∧ ∃ o', A = some ⟨b, o', none⟩) vs ls) ∧ Below w.heap.size w wr ∧ Hid (Wf (t.drop m) (k : Int)) ∧ Hid (ls ++ partsK k (t.drop m) = partsE t)) (fun v a wr => t.length - (intOf a).toNat)
  case atStart => exact ⟨1, kidsD c0, none, 0, [], [], by omega, hpos, by simp, rfl, rfl, row_nil _ _ _ _, Each.nil, Below.refl _ _, W0, E0⟩
  case round =>
    obtain ⟨m, k, A', c', vs, ls, hm1, hm, hll, rfl, rfl, hrow, hE, hB, hW, hS⟩ := hrel
    clear W0 E0
    by_cases hlt : m < t.length
    · obtain ⟨m2, k2, rfl, g1, g2, g3, g4, g5, g6⟩ := parts_step hW.out hS.out hlt
      have W2 := Lib.hid g5
      have E2 := Lib.hid g6
      have HRP := Lib.hid (show Reads w (some ⟨b, o + m * 3, none⟩) ((t.drop m).take (m2 - m)) from (HT.out.drop m).take _)
      have hi1 : (m : Int) < (t.length : Int) := by omega
      have hi0 : (0 : Int) ≤ (m : Int) := Int.natCast_nonneg _
      clear g5 g6 hW hS
      obtain ⟨part, hpart⟩ : ∃ part, (t.drop m).take (m2 - m) = part := ⟨_, rfl⟩
      rw [hpart] at g4 HRP E2
      clear hpart
      go_wp2_with fail
      refine (wend_any t (some ⟨b, o, none⟩) ct m _ (HT.out.below hB) (by omega) (by omega)).mono ?_
      rw [g1]
      rintro e w1 ⟨rfl, hb1⟩
      have hB1 := below_then hB hb1
      have hrow1 := Lib.hid (row_below hrow.out hb1)
      have hjm : (m : Int) ≤ (m2 : Int) := by omega
      have hmc : (m2 : Int) ≤ (ct : Int) := by omega
      have hjc : ¬ ct = m := by omega
      have hc0 : (w1.alloc (.cells #[.slice (some ⟨b, o + m * 3, none⟩) (m2 - m) (ct - m)] 22)).cell? ⟨w1.heap.size, 0, none⟩ = some (.slice (some ⟨b, o + m * 3, none⟩) (m2 - m) (ct - m)) := by go_cell
      clear hrow g1 hb1
      go_wp2_with (at_builtin; refine wpList_app _ rfl (.tmp 17) (.tmp 22) _ rfl w.heap.size _ i0 _ 1 24 Tryd.underlying29 hi hz0 hz1 hz2 rfl ?a1 (.slice A' ls.length c') ls.length vs rfl ?a2 (some ⟨w1.heap.size, 0, none⟩) 1 1 [.slice (some ⟨b, o + m * 3, none⟩) (m2 - m) (ct - m)] rfl ?a3 ?a4 ?a5 ?a6 ?a7)
      case a1 => omega
      case a2 => exact hrow1.out.alloc _
      case a3 => exact Src.slice1 hc0 rfl
      case a4 => simp only [maxLen]; omega
      case a5 => omega
      case a6 => rw [World.size_alloc]; have := hB1.size; omega
      case a7 =>
        intro v2 w2 hown2 hg2 hat2
        obtain ⟨A2, c2, rfl⟩ := row_slice hown2
        have hB2 : Below w.heap.size w w2 := (below_alloc' hB1 _).grown hg2 (below_alloc' hB1 _).size (fun q hq => row_base hrow1.out q hq)
        have HE2 := Lib.hid (show Each (fun A c l => l.length ≤ c ∧ Reads w A l ∧ ∃ o', A = some ⟨b, o', none⟩) (vs ++ [.slice (some ⟨b, o + m * 3, none⟩) (m2 - m) (ct - m)]) (ls ++ [part]) from by
          have := hE.out.snoc (A := some ⟨b, o + m * 3, none⟩) (c := ct - m) (l := part) ⟨by omega, HRP.out, _, rfl⟩
          rw [g4] at this
          exact this)
        have HO2 := Lib.hid (show w2.ownsRow w.heap.size 22 1 (.slice A2 (ls ++ [part]).length c2) (ls ++ [part]).length (vs ++ [.slice (some ⟨b, o + m * 3, none⟩) (m2 - m) (ct - m)]) by simpa using hown2)
        clear hown2 hat2 hc0 hE hg2
        go_wp2
        go_roundw
        case rel => exact ⟨m2, k2, A2, c2, _, ls ++ [part], by omega, g2, by simp; omega, rfl, by simp, HO2, HE2, hB2, W2, E2⟩
        case measure => simp [intOf]; omega
    · obtain rfl : m = t.length := by omega
      have hd : t.drop t.length = [] := List.drop_length
      have hw := hW.out
      have hs := hS.out
      rw [hd] at hw hs
      have hk : k = 0 := by have h0 : (k : Int) = 0 := hw; omega
      subst hk
      have hs2 : ls = partsE t := by rw [← hs]; simp [partsK]
      subst hs2
      have HF := Lib.hid (show SlsB wr w.heap.size A' c' b (partsE t) from ⟨vs, hrow.out, hE.out.mono fun _ _ _ p => ⟨p.1, p.2.1.below hB, p.2.2⟩⟩)
      clear hw hs hW hS hrow hE
      go_wp2
      go_ret
      exact ⟨A', c', b, o, rfl, rfl, HF.out, hB⟩
theorem parts_any (t : List CellD) (B : Option Addr) (ct : Nat) (w : World) (ht : Reads w B t) (hct : t.length ≤ ct) (et : (rightE t).1 = 0) :
    Calls Tryd.prog 35 #[.slice B t.length ct] w fun e w' => ∃ A' c', e = .returned (.slice A' (partsE t).length c') ∧ SlsAt w' w.heap.size A' c' (partsE t) ∧ Below w.heap.size w w' :=
  (partsB_any t B ct w ht hct et).mono fun e w' ⟨A', c', b, o, _, he, hs, hB⟩ => ⟨A', c', he, hs.at_, hB⟩
set_option maxRecDepth 100000 in
set_option maxHeartbeats 4000000 in
theorem wpartsB_any (t : List CellD) (B : Option Addr) (ct : Nat) (w : World) (ht : Reads w B t) (hct : t.length ≤ ct) (et : (rightE t).1 = 0) :
    Calls Tryd.prog 37 #[.slice B t.length ct] w fun e w' => ∃ A' c' b o, B = some ⟨b, o, none⟩ ∧ e = .returned (.slice A' (partsE t).length c') ∧ SlsB w' w.heap.size A' c' b (partsE t) ∧ Below w.heap.size w w' := by
  obtain ⟨i0, hi, hz0, hz1, hz2⟩ := info_parts sl_info
  have HT := Lib.hid ht
  have htl := (rightE_ok et).2.2
  obtain ⟨c0, l0, e0, hw0, hp0⟩ := parts_start et
  have hpos : 1 ≤ t.length := by rw [e0]; simp
  have W0 := Lib.hid (show Wf (t.drop 1) (kidsD c0 : Int) by rw [e0]; exact hw0)
  have E0 := Lib.hid (show [] ++ partsK (kidsD c0) (t.drop 1) = partsE t by rw [hp0, e0]; rfl)
  have h0 : t[0] = c0 := by simp [e0]
  have hkk := kidsD_le c0
  clear ht et hw0 hp0
  obtain ⟨b, o, hA, hc0⟩ := HT.out 0 hpos
  subst hA
  rw [h0] at hc0
  have HC0 := Lib.hid hc0
  have t0 : ((t.length : Int) == 0) = false := beq_eq_false_iff_ne.2 (by omega)
  have hi1 : (0 : Int) < (t.length : Int) := by omega
  clear hc0 h0 e0
  go_enter Tryd.func37, Tryd.ntmps37
  go_wp2_with fail
  go_loopw [3, 4, 5] (fun v a i wr => ∃ (m k j : Nat) (A' : Option Addr) (c' : Nat) (vs : List Value) (ls : List (List CellD)), 1 ≤ m ∧ m ≤ t.length ∧ ls.length ≤ m ∧ j + k = kidsD c0 ∧ i = .int .i64 j ∧ a = .int .i64 m ∧ v = .slice A' ls.length c' ∧ Hid (wr.ownsRow w.heap.size 22 1 (.slice A' ls.length c') ls.length vs) ∧ Hid (Each (fun A c l => l.length ≤ c ∧ Reads w A l ∧ ∃ o', A = some ⟨b, o', none⟩) vs ls) ∧ Below w.heap.size w wr ∧ Hid (Wf (t.drop m) (k : Int)) ∧ Hid (ls ++ partsK k (t.drop m) = partsE t)) (fun v a i wr => kidsD c0 - (intOf i).toNat)
  case atStart => exact ⟨1, kidsD c0, 0, none, 0, [], [], by omega, hpos, by simp, by omega, rfl, rfl, rfl, row_nil _ _ _ _, Each.nil, Below.refl _ _, W0, E0⟩
  case round =>
    obtain ⟨m, k, j, A', c', vs, ls, hm1, hm, hll, hjk, rfl, rfl, rfl, hrow, hE, hB, hW, hS⟩ := hrel
    clear W0 E0
    obtain ⟨z0, z1, z2⟩ := HC0.out.below hB
    rw [Nat.zero_mul, Nat.add_zero] at z0 z1 z2
    go_wp2_with fail
    refine (rkids_any c0 _).mono ?_
    rintro e w0 ⟨rfl, hb0⟩
    have hB0 := below_then hB hb0
    by_cases hlt : j < kidsD c0
    · have hmt : m < t.length := by
        rcases Nat.lt_or_ge m t.length with h | h
        · exact h
        · have hw := hW.out
          rw [List.drop_eq_nil_of_le h] at hw
          have h0 : (k : Int) = 0 := hw
          omega
      obtain ⟨m2, k2, rfl, g1, g2, g3, g4, g5, g6⟩ := parts_step hW.out hS.out hmt
      have W2 := Lib.hid g5
      have E2 := Lib.hid g6
      have HRP := Lib.hid (show Reads w (some ⟨b, o + m * 3, none⟩) ((t.drop m).take (m2 - m)) from (HT.out.drop m).take _)
      have hj1 : (j : Int) < (kidsD c0 : Int) := by omega
      have hj0 : (0 : Int) ≤ (j : Int) := Int.natCast_nonneg _
      have hi0 : (0 : Int) ≤ (m : Int) := Int.natCast_nonneg _
      have hrow0 := Lib.hid (row_below hrow.out hb0)
      clear g5 g6 hW hS hrow z0 z1 z2 hb0
      obtain ⟨part, hpart⟩ : ∃ part, (t.drop m).take (m2 - m) = part := ⟨_, rfl⟩
      rw [hpart] at g4 HRP E2
      clear hpart
      go_wp2_with fail
      refine (rend_any t (some ⟨b, o, none⟩) ct m _ (HT.out.below hB0) (by omega) (by omega)).mono ?_
      rw [g1]
      rintro e w1 ⟨rfl, hb1⟩
      have hB1 := below_then hB0 hb1
      have hrow1 := Lib.hid (row_below hrow0.out hb1)
      have hjm : (m : Int) ≤ (m2 : Int) := by omega
      have hmc : (m2 : Int) ≤ (ct : Int) := by omega
      have hjc : ¬ ct = m := by omega
      have hcc : (w1.alloc (.cells #[.slice (some ⟨b, o + m * 3, none⟩) (m2 - m) (ct - m)] 22)).cell? ⟨w1.heap.size, 0, none⟩ = some (.slice (some ⟨b, o + m * 3, none⟩) (m2 - m) (ct - m)) := by go_cell
      clear hrow0 g1 hb1
      go_wp2_with (at_builtin; refine wpList_app _ rfl (.tmp 29) (.tmp 34) _ rfl w.heap.size _ i0 _ 1 24 Tryd.underlying29 hi hz0 hz1 hz2 rfl ?a1 (.slice A' ls.length c') ls.length vs rfl ?a2 (some ⟨w1.heap.size, 0, none⟩) 1 1 [.slice (some ⟨b, o + m * 3, none⟩) (m2 - m) (ct - m)] rfl ?a3 ?a4 ?a5 ?a6 ?a7)
      case a1 => omega
      case a2 => exact hrow1.out.alloc _
      case a3 => exact Src.slice1 hcc rfl
      case a4 => simp only [maxLen]; omega
      case a5 => omega
      case a6 => rw [World.size_alloc]; have := hB1.size; omega
      case a7 =>
        intro v2 w2 hown2 hg2 hat2
        obtain ⟨A2, c2, rfl⟩ := row_slice hown2
        have hB2 : Below w.heap.size w w2 := (below_alloc' hB1 _).grown hg2 (below_alloc' hB1 _).size (fun q hq => row_base hrow1.out q hq)
        have HE2 := Lib.hid (show Each (fun A c l => l.length ≤ c ∧ Reads w A l ∧ ∃ o', A = some ⟨b, o', none⟩) (vs ++ [.slice (some ⟨b, o + m * 3, none⟩) (m2 - m) (ct - m)]) (ls ++ [part]) from by
          have := hE.out.snoc (A := some ⟨b, o + m * 3, none⟩) (c := ct - m) (l := part) ⟨by omega, HRP.out, _, rfl⟩
          rw [g4] at this
          exact this)
        have HO2 := Lib.hid (show w2.ownsRow w.heap.size 22 1 (.slice A2 (ls ++ [part]).length c2) (ls ++ [part]).length (vs ++ [.slice (some ⟨b, o + m * 3, none⟩) (m2 - m) (ct - m)]) by simpa using hown2)
        clear hown2 hat2 hcc hE hg2
        go_wp2
        go_roundw
        case rel => exact ⟨m2, k2, j + 1, A2, c2, _, ls ++ [part], by omega, g2, by simp; omega, by omega, by go_num, rfl, by simp, HO2, HE2, hB2, W2, E2⟩
        case measure => simp [intOf]; omega
    · have hk : k = 0 := by omega
      subst hk
      have hs2 : ls = partsE t := by rw [← hS.out]; simp [partsK]
      subst hs2
      have HF := Lib.hid (show SlsB w0 w.heap.size A' c' b (partsE t) from ⟨vs, row_below hrow.out hb0, hE.out.mono fun _ _ _ p => ⟨p.1, p.2.1.below hB0, p.2.2⟩⟩)
      clear hW hS hrow hE hb0
      go_wp2
      go_ret
      exact ⟨A', c', b, o, rfl, rfl, HF.out, hB0⟩
theorem wparts_any (t : List CellD) (B : Option Addr) (ct : Nat) (w : World) (ht : Reads w B t) (hct : t.length ≤ ct) (et : (rightE t).1 = 0) :
    Calls Tryd.prog 37 #[.slice B t.length ct] w fun e w' => ∃ A' c', e = .returned (.slice A' (partsE t).length c') ∧ SlsAt w' w.heap.size A' c' (partsE t) ∧ Below w.heap.size w w' :=
  (wpartsB_any t B ct w ht hct et).mono fun e w' ⟨A', c', b, o, _, he, hs, hB⟩ => ⟨A', c', he, hs.at_, hB⟩
end Go.Proofs.YtfeaolnklooanaaDoor.Tm
