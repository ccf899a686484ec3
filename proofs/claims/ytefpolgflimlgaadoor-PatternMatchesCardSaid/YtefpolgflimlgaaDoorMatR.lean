/- The reference's Match; SpoilAll. -/
import Derived.Test.YtefpolgflimlgaaDoorFits
import Derived.Test.YtefpolgflimlgaaDoorMid
namespace Go.Proofs.YtefpolgflimlgaaDoor.Tm
open Go.RowKit
set_option linter.unusedVariables false
set_option linter.unusedSimpArgs false

def unset (x : List (List CellD)) (c : CellD) : Bool := decide (c.kind = 13) && (regD x c.n).isEmpty
theorem asks_any (p : List CellD) (x : List (List CellD)) : asksSet p x = !(p.any (unset x)) := by
  unfold asksSet unset
  rw [List.not_any_eq_all_not]
theorem m_f {p t : List CellD} {x : List (List CellD)} (h : (prightE p).1 = 0) (k : (rightE t).1 = 0) (l : wrong8 x = 0) (a : asksSet p x = true) : matchE p t x = ((fitsL p t x (regs16 x)).getD [], (fitsL p t x (regs16 x)).isSome, 0) := by
  cases f : fitsL p t x (regs16 x) with
  | none => exact m_n h k l a f
  | some R => exact m_y h k l a f
set_option maxRecDepth 100000 in
set_option maxHeartbeats 8000000 in
theorem rmatch_any (p t : List CellD) (x : List (List CellD)) (A B C : Option Addr) (cp ct cx : Nat) (w : World) (hp : Reads w A p) (hfp : Fine p) (ht : Reads w B t) (hft : Fine t) (hx : Reads2 w C x) (hfx : Fine2 x)
    (hcp : p.length ≤ cp) (hct : t.length ≤ ct) (hlx : x.length ≤ 1000000000000000) :
    Calls Tryd.prog 59 #[.slice A p.length cp, .slice B t.length ct, .slice C x.length cx] w (MatchPost w (matchE p t x)) := by
  have HP := Lib.hid hp
  have HFP := Lib.hid hfp
  have HT := Lib.hid ht
  have HFT := Lib.hid hft
  have HX := Lib.hid hx
  have HFX := Lib.hid hfx
  have hlp := hfp.lim
  have hlt := hft.lim
  clear hp hfp ht hft hx hfx
  go_enter Tryd.func59, Tryd.ntmps59
  go_wp2_with fail
  refine (prright_any p A cp _ HP.out HFP.out hcp).mono ?_
  rintro e w1 ⟨rfl, hB1⟩
  by_cases ep : (prightE p).1 ≠ 0
  · have F := Lib.hid (m_p (t := t) (x := x) ep)
    have te : ((prightE p).1 != 0) = true := by rw [bne_iff_ne]; exact ep
    clear ep
    go_wp2
    refine bodyPost_ret (results_tmp3 rfl _ _ _) rfl ?_
    exact MatchPost.no F.out hB1
  have ep : (prightE p).1 = 0 := Decidable.not_not.1 ep
  have te : ((prightE p).1 != 0) = false := by rw [bne_eq_false_iff_eq]; exact ep
  have EP := Lib.hid ep
  clear ep
  go_wp2_with fail
  refine (rright_any t B ct _ (HT.out.below hB1) HFT.out.text hlt).mono ?_
  rintro e w2 ⟨rfl, hb2⟩
  have hB2 := below_then hB1 hb2
  clear hb2 hB1
  by_cases et : (rightE t).1 ≠ 0
  · have F := Lib.hid (m_t (x := x) EP.out et)
    have te2 : ((rightE t).1 != 0) = true := by rw [bne_iff_ne]; exact et
    clear et
    go_wp2
    refine bodyPost_ret (results_tmp3 rfl _ _ _) rfl ?_
    exact MatchPost.no F.out hB2
  have et : (rightE t).1 = 0 := Decidable.not_not.1 et
  have te2 : ((rightE t).1 != 0) = false := by rw [bne_eq_false_iff_eq]; exact et
  have ET := Lib.hid et
  clear et
  go_wp2_with fail
  refine (rwrong8_any x C cx _ (HX.out.below hB2) HFX.out hlx).mono ?_
  rintro e w3 ⟨rfl, hb3⟩
  have hB3 := below_then hB2 hb3
  clear hb3 hB2
  by_cases ex : wrong8 x ≠ 0
  · have F := Lib.hid (m_x EP.out ET.out ex)
    have te3 : (wrong8 x != 0) = true := by rw [bne_iff_ne]; exact ex
    clear ex
    go_wp2
    refine bodyPost_ret (results_tmp3 rfl _ _ _) rfl ?_
    exact MatchPost.no F.out hB3
  have ex : wrong8 x = 0 := Decidable.not_not.1 ex
  have te3 : (wrong8 x != 0) = false := by rw [bne_eq_false_iff_eq]; exact ex
  have EX := Lib.hid ex
  have HB3 := Lib.hid hB3
  clear ex hB3
  go_wp2_with fail
  go_loopw [41] (fun i wr => ∃ k : Nat, k ≤ p.length ∧ i = .int .i64 k ∧ Below w.heap.size w wr ∧ Hid (((p.take k).any (unset x)) = false)) (fun i wr => p.length - (intOf i).toNat)
  case atStart => exact ⟨0, Nat.zero_le _, rfl, HB3.out, rfl⟩
  case round =>
    obtain ⟨k, hk, rfl, hB, hN⟩ := hrel
    by_cases hlt2 : k < p.length
    · obtain ⟨b, o, hA, hpc⟩ := HP.out k hlt2
      subst hA
      obtain ⟨q0, q1, q2⟩ := hpc.below hB
      have hi1 : (k : Int) < (p.length : Int) := by omega
      have hi0 : (0 : Int) ≤ (k : Int) := Int.natCast_nonneg _
      have S := Lib.hid (any_snoc (f := unset x) hlt2)
      have Y := Lib.hid (any_at (f := unset x) hlt2)
      generalize p[k] = y at *
      have HBa := Lib.hid (below_alloc' hB (.cells #[.int .i64 y.kind, .int .i64 y.n, .string y.text] 95))
      clear hpc hB
      by_cases k13 : y.kind = 13
      · have e13 : (y.kind == 13) = true := by simp [k13]
        have K13 := Lib.hid k13
        clear k13
        go_wp2_with fail
        refine (reg_any x y.n C cx _ (HX.out.below HBa.out) hlx).mono ?_
        rintro e w4 ⟨A4, c4, rfl, hc4, hR4, hb4⟩
        have HB4 := Lib.hid (below_then HBa.out hb4)
        clear hR4 hb4
        by_cases hz : regD x y.n = []
        · have F := Lib.hid (m_a EP.out ET.out EX.out (show asksSet p x = false by rw [asks_any, Y.out (by simp [unset, K13.out, hz])]; rfl))
          rw [hz]
          clear hN S Y
          go_wp2
          refine bodyPost_ret (results_tmp3 rfl _ _ _) rfl ?_
          exact MatchPost.no F.out HB4.out
        · have F := Lib.hid (show ((p.take (k + 1)).any (unset x)) = false by rw [S.out, hN.out]; simp [unset, hz])
          have hz1 : ((regD x y.n).length : Int) ≠ 0 := by have := List.length_pos_iff.2 hz; omega
          have hz2 : (((regD x y.n).length : Int) == 0) = false := beq_eq_false_iff_ne.2 hz1
          clear hN S Y hz hz1
          go_wp2
          go_roundw
          case rel => exact ⟨k + 1, by omega, by go_num, HB4.out, F⟩
          case measure => simp [intOf]; omega
      · have e13 : (y.kind == 13) = false := beq_eq_false_iff_ne.2 k13
        have F := Lib.hid (show ((p.take (k + 1)).any (unset x)) = false by rw [S.out, hN.out]; simp [unset, k13])
        clear hN S Y k13
        go_wp2
        go_roundw
        case rel => exact ⟨k + 1, by omega, by go_num, HBa.out, F⟩
        case measure => simp [intOf]; omega
    · have hN2 := hN.out
      rw [List.take_of_length_le (by omega)] at hN2
      have F := Lib.hid (m_f EP.out ET.out EX.out (show asksSet p x = true by rw [asks_any, hN2]; rfl))
      have HB := Lib.hid hB
      clear hN hN2 hB
      go_wp2_with fail
      refine (rfits_any p t x A B C cp ct cx _ (HP.out.below HB.out) HFP.out (HT.out.below HB.out) HFT.out (HX.out.below HB.out) HFX.out hct hlx EP.out ET.out).mono ?_
      rintro e w5 ⟨v, rfl, hR, hb5⟩
      have HR := Lib.hid hR
      have HB5 := Lib.hid (below_then HB.out hb5)
      have hsz := HB.out.size
      clear hR hb5
      generalize hb : (fitsL p t x (regs16 x)).isSome = bb at *
      have HBB := Lib.hid hb
      clear hb
      go_wp2
      refine bodyPost_ret (results_tmp3 rfl _ _ _) rfl ?_
      rw [F.out, ← HBB.out]
      refine ⟨v, rfl, ?_, HB5.out⟩
      rcases HR.out with ⟨h1, h2⟩ | ⟨og, vs, h1, h2, h3⟩
      · exact .inl ⟨h1, h2⟩
      · exact .inr ⟨og, vs, h1, h2, h3.base_ hsz⟩
theorem row_aside2 {w W : World} {base n : Nat} {e : TypeId} {size : Nat} {v : Value} {xs : List Value} {row : Option Nat} (h : w.ownsRow base e size v n xs) (g : w.grownBy W row) (hb : ∀ k, row = some k → k < base) : W.ownsRow base e size v n xs :=
  h.kept g (by
    cases hv : v.ownBlock with
    | none => exact .inl rfl
    | some k =>
      right
      intro e'
      have h1 := row_base h k hv
      have h2 := hb k e'.symm
      omega)
/-- What lies outside the blocks from lo up to hi is as it was. -/
structure Spared (lo hi : Nat) (w V : World) : Prop where
  bel : Below lo w V
  row : ∀ (base n : Nat) (e : TypeId) (s : Nat) (v : Value) (xs : List Value), hi ≤ base → w.ownsRow base e s v n xs → V.ownsRow base e s v n xs
  blk : ∀ i, i < w.heap.size → hi ≤ i → V.heap[i]? = w.heap[i]?
theorem Spared.refl (lo hi : Nat) (w : World) : Spared lo hi w w := ⟨Below.refl _ _, fun _ _ _ _ _ _ _ h => h, fun _ _ _ => rfl⟩
theorem Spared.next {lo hi : Nat} {w W V : World} (h : Spared lo hi w W) (hlo : lo ≤ w.heap.size) {row : Option Nat} (g : W.grownBy V row) (hr : ∀ k, row = some k → lo ≤ k ∧ k < hi) : Spared lo hi w V :=
  ⟨h.bel.grown g (by have := h.bel.size; omega) (fun k e => (hr k e).1), fun base n e s v xs hb k => row_aside2 (h.row base n e s v xs hb k) g (fun k e => by have := (hr k e).2; omega),
   fun i hi' hh => (g.block i (by have := h.bel.size; omega) (fun e => by have := (hr i e.symm).2; omega)).trans (h.blk i hi' hh)⟩
theorem Outs.spared {lo hi base og : Nat} {w V : World} {vs : Array Value} {R : List (List CellD)} (h : Outs w base og vs R) (s : Spared lo hi w V) (hb : hi ≤ base) : Outs V base og vs R :=
  ⟨(s.blk og h.lt (Nat.le_trans hb h.low)).trans h.blk, h.low, h.each.mono fun A c l p => s.row _ _ _ _ _ _ hb p, h.apart⟩
set_option maxRecDepth 100000 in
set_option maxHeartbeats 4000000 in
theorem spoilAll_any (R : List (List CellD)) (vs : Array Value) (lo hi og : Nat) (w : World) (ho : Outs w lo og vs R) (hR : R.length = 16) (hl : ∀ j (h : j < R.length), R[j].length ≤ 1024) (hlo : lo ≤ w.heap.size)
    (hhi : ∀ j (h : j < R.length) A c, vs[j]? = some (.slice A R[j].length c) → ∀ k, (Value.slice A R[j].length c).ownBlock = some k → k < hi) :
    Calls Tryd.prog 53 #[.slice (some ⟨og, 0, none⟩) 16 16] w fun e w' => e = .returned (.tuple #[]) ∧ Spared lo hi w w' := by
  have HO := Lib.hid ho
  have HL := Lib.hid hl
  have HH := Lib.hid hhi
  have hsz := ho.size
  have hog := ho.low
  clear ho hl hhi
  go_enter Tryd.func53, Tryd.ntmps53
  go_wp2_with fail
  go_loopw [2] (fun i wr => ∃ j : Nat, j ≤ 16 ∧ i = .int .i64 j ∧ Hid (Spared lo hi w wr) ∧ Hid (wr.heap[og]? = some (.cells vs 22 (0, 0))) ∧ Hid (∀ n, j ≤ n → (h : n < R.length) → ∃ A c, vs[n]? = some (.slice A R[n].length c) ∧ RowIs wr lo A c R[n])) (fun i wr => 16 - (intOf i).toNat)
  case atStart => exact ⟨0, Nat.zero_le _, rfl, Spared.refl _ _ _, HO.out.blk, fun n _ h => HO.out.val h⟩
  case round =>
    obtain ⟨j, hj, rfl, hS, hblk, hE⟩ := hrel
    by_cases hlt : j < 16
    · obtain ⟨A, c, e1, hrow⟩ := hE.out j (Nat.le_refl _) (by omega)
      have p0 : wr.cell? ⟨og, j, none⟩ = some (.slice A R[j].length c) := by simp [World.cell?, hblk.out, e1]
      have hi1 : (j : Int) < 16 := by omega
      have hi0 : (0 : Int) ≤ (j : Int) := Int.natCast_nonneg _
      have hlj := HL.out j (by omega)
      have hws := hS.out.bel.size
      have HROW := Lib.hid hrow
      have hHj := HH.out j (by omega) A c e1
      have HHJ := Lib.hid hHj
      have E1 := Lib.hid e1
      clear hrow hHj e1
      go_wp2_with fail
      refine (spoil_any A _ c lo _ _ HROW.out (by omega) (by omega)).mono ?_
      rintro e w1 ⟨rfl, hg⟩
      have HS1 := Lib.hid (hS.out.next hlo hg (fun k e => ⟨row_base HROW.out k e, HHJ.out k e⟩))
      have hne := row_not_outs hblk.out HROW.out
      have HB1 := Lib.hid (show w1.heap[og]? = some (.cells vs 22 (0, 0)) from (hg.block og (lt_of_block hblk.out) (fun e => by
        rcases hne with h | h
        · rw [h] at e; cases e
        · exact h e.symm)).trans hblk.out)
      have HE1 := Lib.hid (show ∀ n, j + 1 ≤ n → (h : n < R.length) → ∃ A c, vs[n]? = some (.slice A R[n].length c) ∧ RowIs w1 lo A c R[n] from fun n hn h => by
        obtain ⟨A', c', e', p'⟩ := hE.out n (by omega) h
        refine ⟨A', c', e', World.ownsRow.kept p' hg ?_⟩
        have ha := HO.out.apart n j (by omega) (by omega) (by omega)
        have v1 : vs[n]'(by omega) = .slice A' R[n].length c' := by
          have := e'
          rw [Array.getElem?_eq_getElem (by omega)] at this
          injection this
        have v2 : vs[j]'(by omega) = .slice A R[j].length c := by
          have := E1.out
          rw [Array.getElem?_eq_getElem (by omega)] at this
          injection this
        rw [v1, v2] at ha
        exact ha)
      clear hg hne hS hblk hE p0
      go_wp2
      go_roundw
      case rel => exact ⟨j + 1, by omega, by go_num, HS1, HB1, HE1⟩
      case measure => simp [intOf]; omega
    · go_wp2
      go_end0
      exact ⟨rfl, hS.out⟩
end Go.Proofs.YtefpolgflimlgaaDoor.Tm
