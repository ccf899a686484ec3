/- The law PatternHangs. -/
import Derived.Test.YtefpolgflimlgaaDoorPBack
import Derived.Test.YtefpolgflimlgaaDoorSameAll
namespace Go.Proofs.YtefpolgflimlgaaDoor.Tm
open Go.RowKit
set_option linter.unusedVariables false
set_option linter.unusedSimpArgs false

/-- A block of slices, each of which reads as its list. -/
structure ZAt (W : World) (og : Nat) (vs : Array Value) (R : List (List CellD)) : Prop where
  blk : W.heap[og]? = some (.cells vs 22 (0, 0))
  each : Each (fun A c l => l.length ≤ c ∧ Reads W A l) vs.toList R
section
variable {W V : World} {base og : Nat} {vs : Array Value} {R : List (List CellD)}
theorem ZAt.of (h : Outs W base og vs R) : ZAt W og vs R := ⟨h.blk, h.each.mono fun A c l p => RowIs.reads p⟩
theorem ZAt.lt (h : ZAt W og vs R) : og < W.heap.size := lt_of_block h.blk
theorem ZAt.size (h : ZAt W og vs R) : vs.size = R.length := by have := h.each.1; simpa using this
theorem ZAt.below (h : ZAt W og vs R) (hB : Below W.heap.size W V) : ZAt V og vs R := ⟨(hB.block _ h.lt).trans h.blk, h.each.mono fun A c l p => ⟨p.1, p.2.below hB⟩⟩
theorem ZAt.cell (h : ZAt W og vs R) {n : Nat} (hn : n < R.length) : ∃ A c, W.cell? ⟨og, n, none⟩ = some (.slice A R[n].length c) ∧ R[n].length ≤ c ∧ Reads W A R[n] := by
  obtain ⟨A, c, e, p⟩ := h.each.2 n hn
  have e' : vs[n]? = some (.slice A R[n].length c) := by simpa using e
  exact ⟨A, c, by simp [World.cell?, h.blk, e'], p⟩
theorem ZAt.free (h : ZAt W og vs R) (n : Nat) : W.frozen? ⟨og, n, none⟩ = false := by simp [World.frozen?, h.blk]
theorem ZAt.reads (h : ZAt W og vs R) : Reads2 W (some ⟨og, 0, none⟩) R := fun j hj => by
  obtain ⟨A, c, e, p⟩ := h.cell hj
  exact ⟨og, 0, rfl, A, c, by rw [Nat.zero_add]; exact e, p.1, p.2⟩
theorem ZAt.apart (h : ZAt W og vs R) {A : Option Addr} {l : List CellD} (hr : Reads W A l) {b o : Nat} (hA : A = some ⟨b, o, none⟩) (hl : 0 < l.length) : b ≠ og := by
  intro e
  subst e
  obtain ⟨b', o', e, hc⟩ := hr 0 hl
  obtain ⟨rfl, rfl⟩ : b = b' ∧ o = o' := by rw [hA] at e; simpa using e
  have h0 := hc.1
  simp only [World.cell?, h.blk] at h0
  have h1 : vs[o]? = some (.int .i64 (l[0]).kind) := by simpa using h0
  have hlt : o < vs.size := by
    cases Nat.lt_or_ge o vs.size with
    | inl h => exact h
    | inr h => rw [Array.getElem?_eq_none h] at h1; cases h1
  have hsz := h.size
  obtain ⟨A', c', e', _⟩ := h.each.2 o (by omega)
  have e2 : vs[o]? = some (.slice A' R[o].length c') := by rw [← Array.getElem?_toList]; exact e'
  rw [e2] at h1
  cases h1
theorem ZAt.keep (h : ZAt W og vs R) {A : Option Addr} {l : List CellD} (hr : Reads W A l) (n : Nat) (v : Value) : Reads (W.setCell ⟨og, n, none⟩ v) A l := fun j hj => by
  obtain ⟨b, o, e, hc⟩ := hr j hj
  have hne : og ≠ b := fun e' => h.apart hr e (by omega) e'.symm
  exact ⟨b, o, e, (World.cell?_setCell_far W ⟨og, n, none⟩ ⟨b, _, none⟩ v hne).trans hc.1, (World.cell?_setCell_far W ⟨og, n, none⟩ ⟨b, _, none⟩ v hne).trans hc.2.1, (World.cell?_setCell_far W ⟨og, n, none⟩ ⟨b, _, none⟩ v hne).trans hc.2.2⟩
theorem ZAt.set_ (h : ZAt W og vs R) {n : Nat} (hn : n < R.length) {A : Option Addr} {c : Nat} {l : List CellD} (hc : l.length ≤ c) (hr : Reads W A l) :
    ZAt (W.setCell ⟨og, n, none⟩ (.slice A l.length c)) og (vs.setIfInBounds n (.slice A l.length c)) (R.set n l) := by
  have hsz := h.size
  refine ⟨heap_setCell_self h.blk, ⟨by simp [hsz], fun j hj => ?_⟩⟩
  have hj' : j < R.length := by simpa using hj
  by_cases e : j = n
  · subst e
    refine ⟨A, c, ?_, ?_⟩
    · rw [Array.toList_setIfInBounds, List.getElem?_set_self (by simp; omega), List.getElem_set_self]
    · rw [List.getElem_set_self]
      exact ⟨hc, h.keep hr _ _⟩
  · obtain ⟨A', c', e', p⟩ := h.each.2 j hj'
    have e3 : (R.set n l)[j] = R[j] := List.getElem_set_ne (fun h => e h.symm) _
    refine ⟨A', c', ?_, ?_⟩
    · rw [Array.toList_setIfInBounds, List.getElem?_set_ne (fun h => e h.symm), e3]; exact e'
    · rw [e3]; exact ⟨p.1, h.keep p.2 _ _⟩
end
theorem row_aside {w W : World} {base n : Nat} {e : TypeId} {size : Nat} {v : Value} {xs : List Value} {row : Option Nat} (h : w.ownsRow base e size v n xs) (g : w.grownBy W row) (hb : ∀ k, row = some k → k < base) : W.ownsRow base e size v n xs :=
  h.kept g (by
    cases hv : v.ownBlock with
    | none => exact .inl rfl
    | some k =>
      right
      intro e'
      have h1 := row_base h k hv
      have h2 := hb k e'.symm
      omega)
def zTo (x : List (List CellD)) (ns : List Int) (R : List (List CellD)) : List (List CellD) := ns.foldl (fun R n => R.set n.toNat (regD x n)) R
theorem zTo_snoc (x : List (List CellD)) (ns : List Int) (R : List (List CellD)) {k : Nat} (h : k < ns.length) : zTo x (ns.take (k + 1)) R = (zTo x (ns.take k) R).set (ns[k]).toNat (regD x ns[k]) := by
  rw [List.take_succ_eq_append_getElem h, zTo, List.foldl_append]; rfl
theorem zTo_len (x : List (List CellD)) : ∀ (ns : List Int) (R : List (List CellD)), (zTo x ns R).length = R.length
  | [], R => rfl
  | n :: ns, R => by rw [zTo, List.foldl_cons, ← zTo, zTo_len x ns]; simp
theorem zTo_at (x : List (List CellD)) : ∀ (ns : List Int) (R : List (List CellD)) (i : Nat), (∀ n ∈ ns, 0 ≤ n) → i < R.length → (zTo x ns R)[i]? = if (i : Int) ∈ ns then some (regD x (i : Int)) else R[i]?
  | [], R, i, _, h => by simp [zTo]
  | n :: ns, R, i, h0, h => by
    rw [zTo, List.foldl_cons, ← zTo, zTo_at x ns _ i (fun m hm => h0 m (List.mem_cons_of_mem _ hm)) (by simpa using h)]
    have hn := h0 n (by simp)
    by_cases hm : (i : Int) ∈ ns
    · rw [if_pos hm, if_pos (List.mem_cons_of_mem _ hm)]
    · rw [if_neg hm]
      by_cases e : (i : Int) = n
      · subst e
        rw [if_pos (by simp)]
        simp [List.getElem?_set_self h]
      · rw [if_neg (by simp [e, hm]), List.getElem?_set_ne (by omega)]
theorem mem_named {p : List CellD} {k n : Int} : n ∈ namedD p k ↔ 0 ≤ n ∧ n < 16 ∧ namedB p k n = true := by
  unfold namedD
  simp only [List.mem_map, List.mem_filter, List.mem_range]
  constructor
  · rintro ⟨m, ⟨h1, h2⟩, rfl⟩; exact ⟨by omega, by omega, h2⟩
  · rintro ⟨h0, h1, h2⟩
    exact ⟨n.toNat, ⟨by omega, by rw [Int.toNat_of_nonneg h0]; exact h2⟩, Int.toNat_of_nonneg h0⟩
theorem zTo_mix (p : List CellD) (x y : List (List CellD)) : zTo x (namedD p 13) (regs16 y) = mixD p x y := by
  refine List.ext_getElem? fun i => ?_
  by_cases hi : i < 16
  · rw [zTo_at x _ _ i (fun n hn => (mem_named.1 hn).1) (by rw [regs16_len]; exact hi)]
    have hm : (i : Int) ∈ namedD p 13 ↔ namedB p 13 (i : Int) = true := by rw [mem_named]; exact ⟨fun h => h.2.2, fun h => ⟨by omega, by omega, h⟩⟩
    simp only [hm]
    simp [mixD, regs16, List.getElem?_map, List.getElem?_range, hi]
    split <;> rfl
  · rw [List.getElem?_eq_none (by rw [zTo_len, regs16_len]; omega), List.getElem?_eq_none (by rw [mix_len]; omega)]
theorem mix_fine {p : List CellD} {x y : List (List CellD)} (hx : Fine2 x) (hy : Fine2 y) : Fine2 (mixD p x y) := fun j hj => by
  simp only [mixD, List.getElem_map, List.getElem_range]
  split
  · exact reg_fine hx _
  · exact reg_fine hy _
theorem pmatch_at (p t : List CellD) (x : List (List CellD)) (n : Nat) (hn : x.length = n) (A B C : Option Addr) (cp ct cx : Nat) (w : World) (hp : Reads w A p) (hfp : Fine p) (ht : Reads w B t) (hft : Fine t) (hx : Reads2 w C x) (hfx : Fine2 x)
    (hct : t.length ≤ ct) (hlx : x.length ≤ 1000000000000000) (hT : Tabs w) :
    Calls Tryd.prog 58 #[.slice A p.length cp, .slice B t.length ct, .slice C n cx] w (MatchPost w (matchE p t x)) := by
  subst hn
  exact pmatch_any p t x A B C cp ct cx w hp hfp ht hft hx hfx hct hlx hT
theorem hangs_ok {p t : List CellD} {x y : List (List CellD)} (hx : wrong8 x = 0) (hy : wrong8 y = 0) (hm : (matchE p t x).2.1 = true ∧ (matchE p t x).2.2 = 0) :
    ((matchE p t (mixD p x y)).2.1 = true ∧ (matchE p t (mixD p x y)).2.2 = 0) ∧ (matchE p t x).1.length = 16 ∧ (matchE p t (mixD p x y)).1.length = 16 ∧ ∀ n ∈ namedD p 12, regD (matchE p t x).1 n = regD (matchE p t (mixD p x y)).1 n := by
  obtain ⟨h1, h2⟩ := hangs_law (p := p) (t := t) hx hy
  rw [h1]
  exact ⟨hm, h2 (by rw [← hm.1, ← hm.2])⟩
theorem hangs_no {p t : List CellD} {x y : List (List CellD)} (hx : wrong8 x = 0) (hy : wrong8 y = 0) (hm : ¬ ((matchE p t x).2.1 = true ∧ (matchE p t x).2.2 = 0)) :
    matchE p t (mixD p x y) = matchE p t x ∧ (matchE p t x).1 = [] := by
  obtain ⟨h1, _⟩ := hangs_law (p := p) (t := t) hx hy
  have h2 := match_nil hm
  have h3 := match_nil (p := p) (t := t) (x := mixD p x y) (by rw [h1]; exact hm)
  exact ⟨Prod.ext (h3.trans h2.symm) h1, h2⟩
set_option maxRecDepth 100000 in
set_option maxHeartbeats 8000000 in
theorem patternHangs_any (p t : List CellD) (x y : List (List CellD)) (A B C D : Option Addr) (cp ct cx cy : Nat) (w : World) (hp : Reads w A p) (fp : Fine p) (ht : Reads w B t) (ft : Fine t) (hx : Reads2 w C x) (fx : Fine2 x) (hy : Reads2 w D y) (fy : Fine2 y) (hct : t.length ≤ ct) (hlx : x.length ≤ 1000000000000000) (hly : y.length ≤ 1000000000000000) (hT : Tabs w) :
    Calls Tryd.prog 9 #[.slice A p.length cp, .slice B t.length ct, .slice C x.length cx, .slice D y.length cy] w fun e w' => e = .returned (.bool true) ∧ Below w.heap.size w w' := by
  have hlp := fp.lim
  have n1 := named_len p 12
  have n2 := named_len p 13
  have HP := Lib.hid hp
  have FP := Lib.hid fp
  have HB := Lib.hid ht
  have FT := Lib.hid ft
  have HX := Lib.hid hx
  have FX := Lib.hid fx
  have HY := Lib.hid hy
  have FY := Lib.hid fy
  have HT := Lib.hid hT
  clear hp fp ht ft hx fx hy fy hT
  go_enter Tryd.func9, Tryd.ntmps9
  go_wp2_with fail
  refine (rwrong8_any x C cx _ HX.out FX.out hlx).mono ?_
  rintro e w1 ⟨rfl, hB1⟩
  by_cases ex : wrong8 x ≠ 0
  · have tx : (wrong8 x != 0) = true := by rw [bne_iff_ne]; exact ex
    clear ex
    generalize wrong8 x = E at *
    go_wp2_with fail
    refine (awake8_any _ (Utf8Tabs_below HT.out hB1)).mono ?_
    rintro e w9 ⟨rfl, hb9⟩
    go_wp2
    go_ret
    exact ⟨rfl, below_then hB1 hb9⟩
  have ex : wrong8 x = 0 := Decidable.not_not.1 ex
  have EX := Lib.hid ex
  rw [ex]
  clear ex
  go_wp2_with fail
  refine (rwrong8_any y D cy _ (HY.out.below hB1) FY.out hly).mono ?_
  rintro e w2 ⟨rfl, hb2⟩
  have hB2 := below_then hB1 hb2
  clear hb2 hB1
  by_cases ey : wrong8 y ≠ 0
  · have ty : (wrong8 y != 0) = true := by rw [bne_iff_ne]; exact ey
    clear ey
    generalize wrong8 y = E at *
    go_wp2_with fail
    refine (awake8_any _ (Utf8Tabs_below HT.out hB2)).mono ?_
    rintro e w9 ⟨rfl, hb9⟩
    go_wp2
    go_ret
    exact ⟨rfl, below_then hB2 hb9⟩
  have ey : wrong8 y = 0 := Decidable.not_not.1 ey
  have EY := Lib.hid ey
  rw [ey]
  clear ey
  go_wp2_with fail
  refine (rregs_any y D cy _ (HY.out.below hB2) FY.out hly).mono ?_
  rintro e w3 ⟨og, vs, rfl, hO, hb3⟩
  have hlow := hO.low
  have hlw := hB2.size
  have HB3 := Lib.hid (below_then hB2 hb3)
  have HZ := Lib.hid (ZAt.of hO)
  have hlt3 := hO.lt
  clear hO hb3 hB2
  go_wp2_with fail
  refine (pasks_any p A cp _ (HP.out.below HB3.out) hlp).mono ?_
  rintro e w4 ⟨A4, c4, rfl, hI, hb4⟩
  have HI := Lib.hid hI
  have HB4 := Lib.hid (below_then HB3.out hb4)
  have HZ4 := Lib.hid (HZ.out.below hb4)
  have hw0 : og < w4.heap.size := HZ4.out.lt
  have hw4 : w3.heap.size ≤ w4.heap.size := hb4.size
  clear hI hb4
  go_wp2_with fail
  go_loopw [34] (fun i wr => ∃ (k : Nat) (vz : Array Value), k ≤ (namedD p 13).length ∧ i = .int .i64 k ∧ Below w.heap.size w wr ∧ w4.grownBy wr (some og) ∧ Hid (ZAt wr og vz (zTo x ((namedD p 13).take k) (regs16 y)))) (fun i wr => (namedD p 13).length - (intOf i).toNat)
  case atStart => exact ⟨0, vs, Nat.zero_le _, rfl, HB4.out, grown_below (Below.refl _ _) _, HZ4.out⟩
  case round =>
    obtain ⟨k, vz, hk, rfl, hB, hg, hZ⟩ := hrel
    by_cases hlt : k < (namedD p 13).length
    · have hI5 : IntsAt wr w3.heap.size (.slice A4 (namedD p 13).length c4) (namedD p 13) := row_aside HI.out hg (fun k hk => by injection hk; omega)
      obtain ⟨g, rfl, q0⟩ := hI5.cells hlt
      obtain ⟨m0, m1, _⟩ := mem_named.1 (List.getElem_mem hlt)
      have ZS := Lib.hid (zTo_snoc x (namedD p 13) (regs16 y) hlt)
      have hk1 : (k : Int) < ((namedD p 13).length : Int) := by omega
      have hk0 : (0 : Int) ≤ (k : Int) := Int.natCast_nonneg _
      obtain ⟨m, hm⟩ : ∃ m : Nat, (namedD p 13)[k] = (m : Int) := ⟨((namedD p 13)[k]).toNat, by omega⟩
      rw [hm] at ZS q0 m0 m1
      have hmm : m < 16 := by omega
      have d1 : decide ((m : Int) < 0) = false := decide_eq_false (by omega)
      have d2 : decide ((16 : Int) ≤ (m : Int)) = false := decide_eq_false (by omega)
      obtain ⟨Az, cz, p2, _⟩ := hZ.out.cell (n := m) (by rw [zTo_len, regs16_len]; exact hmm)
      have p3 := hZ.out.free m
      clear hm hI5
      go_wp2_with fail
      refine (reg_any x (m : Int) C cx _ (HX.out.below hB) hlx).mono ?_
      rintro e w5 ⟨A5, c5, rfl, hc5, hR5, hb5⟩
      have t2 := cell_below hb5 p2
      have t3 := frozen_keep hb5 p2 p3
      have HZ5 := Lib.hid ((hZ.out.below hb5).set_ (n := m) (by rw [zTo_len, regs16_len]; exact hmm) hc5 hR5)
      have hB5 := Lib.hid (below_then hB hb5)
      have hg5 := Lib.hid (grown_trans (grown_trans hg (grown_below hb5 (some og))) (grown_setCell w5 og m (.slice A5 (regD x (m : Int)).length c5)))
      have HZ6 := Lib.hid (show ZAt _ og _ (zTo x ((namedD p 13).take (k + 1)) (regs16 y)) from by rw [ZS.out]; exact HZ5.out)
      clear hZ hg hb5 p2 p3 hR5
      go_wp2
      go_roundw
      case rel => exact ⟨k + 1, _, by omega, by go_num, hB5.out.setCell (p := ⟨og, m, none⟩) (by show w.heap.size ≤ og; omega) _, hg5.out, HZ6⟩
      case measure => simp [intOf]; omega
    · obtain rfl : k = (namedD p 13).length := by omega
      rw [List.take_length, zTo_mix] at hZ
      clear hg HI HZ HZ4
      have HBr := Lib.hid hB
      clear hB
      go_wp2_with fail
      refine (pmatch_any p t x A B C cp ct cx _ (HP.out.below HBr.out) FP.out (HB.out.below HBr.out) FT.out (HX.out.below HBr.out) FX.out hct hlx (Utf8Tabs_below HT.out HBr.out)).mono ?_
      have MF := Lib.hid (mix_fine (p := p) FX.out FY.out)
      have ML := mix_len p x y
      have HZr := Lib.hid hZ
      clear hZ
      by_cases hm : (matchE p t x).2.1 = true ∧ (matchE p t x).2.2 = 0
      · have HO := Lib.hid (hangs_ok (t := t) EX.out EY.out hm)
        have MM := Lib.hid (match_fine hm FT.out FX.out)
        rintro e w6 ⟨v1, rfl, hR1, hb6⟩
        rw [hm.1, hm.2]
        obtain ⟨og1, vs1, rfl, hO1⟩ := regs_some hR1 HO.out.2.1
        have HO1 := Lib.hid hO1
        have HB6 := Lib.hid (below_then HBr.out hb6)
        have HZ6 := Lib.hid (HZr.out.below hb6)
        clear hR1 hO1 hb6 hm
        go_wp2_with fail
        refine (pmatch_at p t (mixD p x y) 16 ML A B (some ⟨og, 0, none⟩) cp ct 16 _ (HP.out.below HB6.out) FP.out (HB.out.below HB6.out) FT.out HZ6.out.reads MF.out hct (by omega) (Utf8Tabs_below HT.out HB6.out)).mono ?_
        rintro e w7 ⟨v2, rfl, hR2, hb7⟩
        rw [HO.out.1.1, HO.out.1.2]
        obtain ⟨og2, vs2, rfl, hO2⟩ := regs_some hR2 HO.out.2.2.1
        have HO2 := Lib.hid hO2
        have HB7 := Lib.hid (below_then HB6.out hb7)
        have HO17 := Lib.hid (HO1.out.below hb7)
        clear hR2 hO2 hb7 HO1
        go_wp2_with fail
        refine (pbinds_any p A cp _ (HP.out.below HB7.out) hlp).mono ?_
        rintro e w8 ⟨A8, c8, rfl, hI8, hb8⟩
        have HI8 := Lib.hid hI8
        have HB8 := Lib.hid (below_then HB7.out hb8)
        have HO18 := Lib.hid (HO17.out.below hb8)
        have HO28 := Lib.hid (HO2.out.below hb8)
        clear hI8 hb8 HO17 HO2
        go_wp2_with fail
        go_loopw [95] (fun i wr2 => ∃ k : Nat, k ≤ (namedD p 12).length ∧ i = .int .i64 k ∧ Below w8.heap.size w8 wr2) (fun i wr2 => (namedD p 12).length - (intOf i).toNat)
        case atStart => exact ⟨0, Nat.zero_le _, rfl, Below.refl _ _⟩
        case round =>
          obtain ⟨k, hk, rfl, hB⟩ := hrel
          have HB9 := Lib.hid (below_then HB8.out hB)
          by_cases hlt : k < (namedD p 12).length
          · obtain ⟨g, rfl, q0⟩ := (HI8.out.below hB).cells hlt
            have hmem := List.getElem_mem hlt
            obtain ⟨m0, m1, _⟩ := mem_named.1 hmem
            have hk1 : (k : Int) < ((namedD p 12).length : Int) := by omega
            have hk0 : (0 : Int) ≤ (k : Int) := Int.natCast_nonneg _
            have hR := HO.out.2.2.2 _ hmem
            obtain ⟨m, hm⟩ : ∃ m : Nat, (namedD p 12)[k] = (m : Int) := ⟨((namedD p 12)[k]).toNat, by omega⟩
            rw [hm] at q0 m0 m1 hR
            have hmm : m < 16 := by omega
            have l1 := HO.out.2.1
            have l2 := HO.out.2.2.1
            rw [reg_at (by omega), reg_at (by omega)] at hR
            obtain ⟨Aa, ca, a0, a1⟩ := (HO18.out.below hB).cell (n := m) (by omega)
            obtain ⟨Ab, cb, b0, b1⟩ := (HO28.out.below hB).cell (n := m) (by omega)
            have hlen := (MM.out m (by omega)).lim
            rw [hR] at a0 a1 hlen
            have R1 := Lib.hid a1.reads.2
            have R2 := Lib.hid b1.reads.2
            generalize (matchE p t (mixD p x y)).1[m] = L at *
            clear hmem a1 b1 hR l1 l2 hm
            have d1 : decide ((m : Int) < 0) = false := decide_eq_false (by omega)
            have d2 : decide ((16 : Int) ≤ (m : Int)) = false := decide_eq_false (by omega)
            have HBr8 := Lib.hid hB
            clear hB
            go_wp2_with fail
            go_region_held3 (fun w' => w'.cell? ⟨og1, m, none⟩ = some (.slice Aa L.length ca) ∧ w'.cell? ⟨og2, m, none⟩ = some (.slice Ab L.length cb))
              (first
                | exact ⟨cell_below hbc a0, cell_below hbc b0⟩
                | go_keep)
              ((go_at_call 26; refine (rsame_any Aa Ab ca cb L L _ (R1.out.below ((Below.refl _ _).drew)) (R2.out.below ((Below.refl _ _).drew)) hlen hlen).mono ?_; rintro e wc ⟨rfl, hbc⟩; rw [same_self_]))
            have hBe := Lib.hid (below_then HBr8.out.drew hbc)
            go_wp2
            go_roundw
            case rel => exact ⟨k + 1, by omega, by go_num, hBe.out⟩
            case measure => simp [intOf]; omega
          · go_wp2_with fail
            refine (awake8_any _ (Utf8Tabs_below HT.out HB9.out)).mono ?_
            rintro e w9 ⟨rfl, hb9⟩
            go_wp2
            go_ret
            exact ⟨rfl, below_then HB9.out hb9⟩
      · obtain ⟨hE, hN⟩ := hangs_no (t := t) EX.out EY.out hm
        have HE := Lib.hid hE
        have HN := Lib.hid hN
        have HM := Lib.hid hm
        clear hE hN hm
        rintro e w6 ⟨v1, rfl, hR1, hb6⟩
        rw [HN.out] at hR1
        obtain rfl := regs_none hR1
        have HB6 := Lib.hid (below_then HBr.out hb6)
        have HZ6 := Lib.hid (HZr.out.below hb6)
        clear hR1 hb6
        go_wp2_with fail
        refine (pmatch_at p t (mixD p x y) 16 ML A B (some ⟨og, 0, none⟩) cp ct 16 _ (HP.out.below HB6.out) FP.out (HB.out.below HB6.out) FT.out HZ6.out.reads MF.out hct (by omega) (Utf8Tabs_below HT.out HB6.out)).mono ?_
        rw [HE.out]
        rintro e w7 ⟨v2, rfl, hR2, hb7⟩
        rw [HN.out] at hR2
        obtain rfl := regs_none hR2
        have HB7 := Lib.hid (below_then HB6.out hb7)
        have hm := HM.out
        clear hR2 hb7 HE HN HM
        generalize (matchE p t x).2.1 = mb at *
        generalize (matchE p t x).2.2 = mk at *
        have s1 : (mb != mb) = false := by simp
        have s2 : (mk != mk) = false := by simp
        by_cases ek : mk = 0
        · subst ek
          have eb : mb = false := by simpa using hm
          subst eb
          clear hm s1 s2
          go_wp2_with fail
          refine (awake8_any _ (Utf8Tabs_below HT.out HB7.out)).mono ?_
          rintro e w9 ⟨rfl, hb9⟩
          go_wp2
          go_ret
          exact ⟨rfl, below_then HB7.out hb9⟩
        · have te : (mk != 0) = true := by rw [bne_iff_ne]; exact ek
          clear hm ek s1
          cases mb with
          | true =>
            go_wp2_with fail
            refine (awake8_any _ (Utf8Tabs_below HT.out HB7.out)).mono ?_
            rintro e w9 ⟨rfl, hb9⟩
            go_wp2
            go_ret
            exact ⟨rfl, below_then HB7.out hb9⟩
          | false =>
            go_wp2_with fail
            refine (awake8_any _ (Utf8Tabs_below HT.out HB7.out)).mono ?_
            rintro e w9 ⟨rfl, hb9⟩
            go_wp2
            go_ret
            exact ⟨rfl, below_then HB7.out hb9⟩
theorem patternHangs_row (A : Option Addr) (c : Nat) (p : List CellD) (B : Option Addr) (d : Nat) (t : List CellD) (C : Option Addr) (cx : Nat) (x : List (List CellD)) (D : Option Addr) (cy : Nat) (y : List (List CellD)) (w : World) (hT : Tabs w) (h1 : p.length ≤ c) (hp : Reads w A p) (s1 : ∀ j (h : j < p.length), (p[j]).text.size ≤ 9223372036854775807) (y1 : p.length * 32 ≤ 140737488351232)
    (h2 : t.length ≤ d) (ht : Reads w B t) (s2 : ∀ j (h : j < t.length), (t[j]).text.size ≤ 9223372036854775807) (y2 : t.length * 32 ≤ 140737488351232) (h5 : x.length ≤ cx) (hx : Reads2 w C x) (fx : Fine2 x) (y5 : x.length * 24 ≤ 140737488351232) (h6 : y.length ≤ cy) (hy : Reads2 w D y) (fy : Fine2 y) (y6 : y.length * 24 ≤ 140737488351232) :
    Calls Tryd.prog 9 #[.slice A p.length c, .slice B t.length d, .slice C x.length cx, .slice D y.length cy] w fun e w' => e = .returned (.bool true) ∧ Below w.heap.size w w' :=
  patternHangs_any p t x y A B C D c d cx cy w hp ⟨y1, s1⟩ ht ⟨y2, s2⟩ hx fx hy fy h2 (by omega) (by omega) hT
end Go.Proofs.YtefpolgflimlgaaDoor.Tm
