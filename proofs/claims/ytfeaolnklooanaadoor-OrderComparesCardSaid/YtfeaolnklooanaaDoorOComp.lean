/- The law OrderCompares: whatever the terms, it returns true. -/
import Derived.Test.YtfeaolnklooanaaDoorSrtRg
import Derived.Test.YtfeaolnklooanaaDoorMaxR
import Derived.Test.YtfeaolnklooanaaDoorMid
import Derived.Deep.RegionHeld3
namespace Go.Proofs.YtfeaolnklooanaaDoor.Tm
open Go.RowKit
set_option linter.unusedVariables false
set_option linter.unusedSimpArgs false

/-- What a sort of these terms tells. -/
def SortedOf (ls r : List (List CellD)) : Prop := (wrongE ls ≠ 0 ∧ r = []) ∨ (wrongE ls = 0 ∧ r.Perm ls ∧ Rising r)
theorem sorted_one {ls r s : List (List CellD)} (h : SortedOf ls r) (k : SortedOf ls s) : r = s := by
  rcases h with ⟨h1, rfl⟩ | ⟨h1, h2, h3⟩
  · rcases k with ⟨_, rfl⟩ | ⟨k1, _⟩
    · rfl
    · exact absurd k1 h1
  · rcases k with ⟨k1, _⟩ | ⟨_, k2, k3⟩
    · exact absurd h1 k1
    · refine List.Perm.eq_of_pairwise (fun a b ha hb p q => ?_) h3 k3 (h2.trans k2.symm)
      have hra := wrong_all h1 a (h2.mem_iff.1 ha)
      have hrb := wrong_all h1 b (k2.mem_iff.1 hb)
      have := (term_sides a b).turn
      exact (term_zero hra hrb).1 (by omega)
theorem sorted_small {ls r : List (List CellD)} (h : SortedOf ls r) : ∀ l ∈ r, l.length ≤ 1024 := fun l hl => by
  rcases h with ⟨_, rfl⟩ | ⟨h1, h2, _⟩
  · exact absurd hl List.not_mem_nil
  · exact (rightE_ok (wrong_all h1 l (h2.mem_iff.1 hl))).2.2
theorem sorted_len {ls r : List (List CellD)} (h : SortedOf ls r) : r.length ≤ ls.length := by
  rcases h with ⟨_, rfl⟩ | ⟨_, h2, _⟩
  · simp
  · exact Nat.le_of_eq h2.length_eq
theorem osort_u (ls : List (List CellD)) (A : Option Addr) (c : Nat) (w : World) (hr : Reads2 w A ls) (hf : Fine2 ls) (hn : ls.length * 24 ≤ 140737488351232) (hT : Tabs w) :
    Calls Tryd.prog 31 #[.slice A ls.length c] w fun e w' => ∃ A' c' N ys, e = .returned (.tuple #[.slice A' N c', .int .i64 (wrongE ls)]) ∧ ys.length = N ∧ w'.ownsRow w.heap.size 22 1 (.slice A' N c') N (ys.map Yld.val) ∧ YRows w.heap.size ys w' ∧ YApart ys ∧ SortedOf ls (ys.map Yld.l) ∧ Below w.heap.size w w' := by
  refine (osort_any ls A c w hr hf hn hT).mono ?_
  rintro e w' ⟨(⟨hne, rfl⟩ | ⟨hw, A', c', ys, rfl, hS, hl⟩), hB⟩
  · exact ⟨none, 0, 0, [], rfl, rfl, row_nil _ _ _ _, YRows.nil _ _, List.Pairwise.nil, .inl ⟨hne, rfl⟩, hB⟩
  · refine ⟨A', c', ls.length, ys, by rw [hw], hl, ?_, hS.2.1, hS.2.2.1, .inr ⟨hw, hS.2.2.2.1, hS.2.2.2.2⟩, hB⟩
    have := hS.1
    rwa [hl] at this
theorem rsort_u (ls : List (List CellD)) (A : Option Addr) (c : Nat) (w : World) (hr : Reads2 w A ls) (hf : Fine2 ls) (hn : ls.length * 24 ≤ 140737488351232) :
    Calls Tryd.prog 32 #[.slice A ls.length c] w fun e w' => ∃ A' c' N rs, e = .returned (.tuple #[.slice A' N c', .int .i64 (wrongE ls)]) ∧ rs.length = N ∧ SlsAt w' w.heap.size A' c' rs ∧ SortedOf ls rs ∧ Below w.heap.size w w' := by
  refine (rsort_any ls A c _ rfl w hr hf hn).mono ?_
  rintro e w' ⟨(⟨hne, rfl⟩ | ⟨hw, A', c', rs, rfl, hl, hS, hp, hs⟩), hB⟩
  · exact ⟨none, 0, 0, [], rfl, rfl, SlsAt.nil_ _ _, .inl ⟨hne, rfl⟩, hB⟩
  · exact ⟨A', c', ls.length, rs, by rw [hw], hl, hS, .inr ⟨hw, hp, hs⟩, hB⟩
set_option maxRecDepth 100000 in
set_option maxHeartbeats 16000000 in
theorem ocomp_any (a b : List CellD) (ls : List (List CellD)) (A B C : Option Addr) (ca cb cl : Nat) (w : World) (hra : Reads w A a) (hfa : Fine a) (hrb : Reads w B b) (hfb : Fine b) (hrl : Reads2 w C ls) (hfl : Fine2 ls) (hn : ls.length * 24 ≤ 140737488351232) (hT : Tabs w) :
    Calls Tryd.prog 5 #[.slice A a.length ca, .slice B b.length cb, .slice C ls.length cl] w fun e w' => e = .returned (.bool true) ∧ Below w.heap.size w w' := by
  have HRA := Lib.hid hra
  have HRB := Lib.hid hrb
  have HRL := Lib.hid hrl
  have HFA := Lib.hid hfa
  have HFB := Lib.hid hfb
  have HFL := Lib.hid hfl
  have HT := Lib.hid hT
  have hla := hfa.len
  have hlb := hfb.len
  clear hra hrb hrl hfa hfb hfl hT
  go_enter Tryd.func5, Tryd.ntmps5
  go_wp2_with fail
  refine (lent_any a A ca _ HRA.out (by omega)).mono ?_
  rintro e w1 ⟨A1, c1, rfl, hL1, hB1⟩
  have HL1 := Lib.hid hL1
  have HB1 := Lib.hid hB1
  clear hL1 hB1
  go_wp2_with fail
  refine (lent_any b B cb _ (HRB.out.below HB1.out) (by omega)).mono ?_
  rintro e w2 ⟨A2, c2, rfl, hL2, hb2⟩
  have HL2 := Lib.hid hL2
  have HL12 := Lib.hid (HL1.out.below hb2)
  have HB2 := Lib.hid (below_then HB1.out hb2)
  clear hL2 hb2 HL1
  go_wp2_with fail
  refine (lents_any ls C cl _ (HRL.out.below HB2.out) HFL.out (by omega)).mono ?_
  rintro e w3 ⟨A3, c3, rfl, hL3, hb3⟩
  have HL3 := Lib.hid hL3
  have HL13 := Lib.hid (HL12.out.below hb3)
  have HL23 := Lib.hid (HL2.out.below hb3)
  have HB3 := Lib.hid (below_then HB2.out hb3)
  clear hL3 hb3 HL12 HL2
  have HCA := Lib.hid HL13.out.lenCap
  have HCB := Lib.hid HL23.out.lenCap
  go_wp2_with fail
  refine (Compare_any a b A1 A2 c1 c2 _ HL13.out.reads HL23.out.reads HFA.out HFB.out HCA.out HCB.out (Utf8Tabs_below HT.out HB3.out)).mono ?_
  rintro e w4 ⟨rfl, hb4⟩
  have HB4 := Lib.hid (below_then HB3.out hb4)
  have HB34 := Lib.hid hb4
  clear hb4
  go_wp2_with fail
  refine (rcompare_any a b A B ca cb _ (HRA.out.below HB4.out) (HRB.out.below HB4.out) HFA.out HFB.out).mono ?_
  rintro e w5 ⟨rfl, hb5⟩
  have HB5 := Lib.hid (below_then HB4.out hb5)
  have HB35 := Lib.hid (below_then HB34.out hb5)
  clear hb5 HB34
  obtain ⟨r1, hr1⟩ : ∃ r, compareE a b = r := ⟨_, rfl⟩
  rw [hr1]
  clear hr1
  go_wp2_with fail
  refine (omax_any ls A3 c3 _ (HL3.out.reads.below HB35.out) HFL.out hn (Utf8Tabs_below HT.out HB5.out)).mono ?_
  have hml := maxE_len ls
  obtain ⟨M, hM⟩ : ∃ r, maxE ls = r := ⟨_, rfl⟩
  rw [hM] at hml ⊢
  rintro e w6 ⟨A6, c6, rfl, h6⟩
  have hb6 := h6.bel
  have HR6 := Lib.hid h6.reads
  have HO6 := Lib.hid h6.row
  have HB6 := Lib.hid (below_then HB5.out hb6)
  have HB36 := Lib.hid (below_then HB35.out hb6)
  have hz5 := HB35.out.size
  have hz6 := hb6.size
  clear h6 hb6 HB35
  go_wp2_with fail
  refine (rmax_any ls C cl _ (HRL.out.below HB6.out) HFL.out hn).mono ?_
  rw [hM]
  rintro e w7 ⟨A7, c7, rfl, hc7, hr7, hb7⟩
  have HR7 := Lib.hid hr7
  have HR67 := Lib.hid (HR6.out.below hb7)
  have HO67 := Lib.hid (row_below HO6.out hb7)
  have HB7 := Lib.hid (below_then HB6.out hb7)
  have HB37 := Lib.hid (below_then HB36.out hb7)
  have HB67 := Lib.hid hb7
  have hz7 := hb7.size
  clear hr7 hb7 HB36 HR6 hM
  go_wp2_with fail
  refine (osort_u ls A3 c3 _ (HL3.out.reads.below HB37.out) HFL.out hn (Utf8Tabs_below HT.out HB7.out)).mono ?_
  rintro e w8 ⟨A8, c8, N8, ys, rfl, hl8, ho8, hy8, ha8, hs8, hb8⟩
  have HL8 := Lib.hid hl8
  have HO8 := Lib.hid ho8
  have HY8 := Lib.hid hy8
  have HA8 := Lib.hid ha8
  have HS8 := Lib.hid hs8
  have HB8 := Lib.hid (below_then HB7.out hb8)
  have HB38 := Lib.hid (below_then HB37.out hb8)
  have HR68 := Lib.hid (HR67.out.below hb8)
  have HR78 := Lib.hid (HR7.out.below hb8)
  have HO68 := Lib.hid (row_below HO67.out hb8)
  have hz8 := hb8.size
  clear hl8 ho8 hy8 ha8 hs8 hb8 HB37 HR67 HO67 HR7
  go_wp2_with fail
  refine (rsort_u ls C cl _ (HRL.out.below HB8.out) HFL.out hn).mono ?_
  rintro e w9 ⟨A9, c9, N9, rs, rfl, hl9, hS9, hs9, hb9⟩
  have hrsy := sorted_one hs9 HS8.out
  have hN : N9 = N8 := by rw [← hl9, hrsy, List.length_map]; exact HL8.out
  subst hN
  have HE := Lib.hid hrsy
  have HS9 := Lib.hid hS9
  have HRL9 := Lib.hid hl9
  have hNl : N9 ≤ ls.length := by rw [← hl9]; exact sorted_len hs9
  have HSM := Lib.hid (sorted_small hs9)
  have HB9 := Lib.hid (below_then HB8.out hb9)
  have HB39 := Lib.hid (below_then HB38.out hb9)
  have HR69 := Lib.hid (HR68.out.below hb9)
  have HR79 := Lib.hid (HR78.out.below hb9)
  have HO69 := Lib.hid (row_below HO68.out hb9)
  have HO89 := Lib.hid (row_below HO8.out hb9)
  have HY89 := Lib.hid (HY8.out.below hb9)
  have hz9 := hb9.size
  clear hl9 hS9 hs9 hb9 hrsy HB38 HR68 HR78 HO68 HO8 HY8
  have n1 : (r1.1 != r1.1) = false := by simp
  have n2 : (r1.2 != r1.2) = false := by simp
  have n3 : (M.2 != M.2) = false := by simp
  have n4 : (wrongE ls != wrongE ls) = false := by simp
  go_wp2_with fail
  refine (rsame_self M.1 _ _ rfl rfl A6 A7 c6 c7 _ HR69.out HR79.out (by omega)).mono ?_
  rintro e w10 ⟨rfl, hb10⟩
  have HB10 := Lib.hid (below_then HB9.out hb10)
  have HB310 := Lib.hid (below_then HB39.out hb10)
  have HS10 := Lib.hid (HS9.out.below hb10)
  have HO610 := Lib.hid (row_below HO69.out hb10)
  have HO810 := Lib.hid (row_below HO89.out hb10)
  have HY810 := Lib.hid (HY89.out.below hb10)
  have hz10 := hb10.size
  clear hb10 HB39 HS9 HO69 HO89 HY89 HR69 HR79
  go_wp2_with fail
  refine (sameAll_any N9 rs HRL9.out A8 A9 c8 c9 _ (by rw [HE.out]; exact YRows.reads2 (base := w7.heap.size) (c := c8) (by rw [HL8.out]; exact HO810.out) HY810.out) HS10.out.reads (fun l hl => by have := HSM.out l hl; omega) (by omega)).mono ?_
  rintro e w11 ⟨rfl, hb11⟩
  have HB11 := Lib.hid (below_then HB10.out hb11)
  have HB311 := Lib.hid (below_then HB310.out hb11)
  have HO611 := Lib.hid (row_below HO610.out hb11)
  have HO811 := Lib.hid (row_below HO810.out hb11)
  have HY811 := Lib.hid (HY810.out.below hb11)
  have hz11 := hb11.size
  clear hb11 HB310 HS10 HO610 HO810 HY810
  go_wp2_with fail
  refine (spoil_any A6 M.1.length c6 w5.heap.size (encs M.1) _ HO611.out (by omega) (by omega)).mono ?_
  rintro e w12 ⟨rfl, hg12⟩
  have hmb : ∀ k, (Value.slice A6 M.1.length c6).ownBlock = some k → k < w7.heap.size := fun k e => by have := row_lt HO6.out k e; omega
  have HO812 := Lib.hid (row_aside2 HO811.out hg12 hmb)
  have HY812 := Lib.hid (show YRows w7.heap.size ys w12 from fun y hy => row_aside2 (HY811.out y hy) hg12 hmb)
  have HB312 := Lib.hid (HB311.out.grown hg12 HB311.out.size (fun k e => by have := row_base HO611.out k e; omega))
  have hz12 := hg12.size
  clear hg12 hmb HB311 HO611 HO811 HY811
  go_wp2_with fail
  refine (spoilRow_any ys (.slice A8 N9 c8) w7.heap.size w7.heap.size w12.heap.size _ (by rw [HL8.out]; exact HO812.out) HY812.out HA8.out (ys_small HE.out.symm HSM.out) (by rw [HL8.out]; omega) (by omega) HY812.out.high).mono ?_
  rintro e w13 ⟨rfl, hs13⟩
  have HB313 := Lib.hid (HB312.out.trans (hs13.bel.mono (by omega)))
  have HB13 := Lib.hid (below_then HB3.out HB313.out)
  clear hs13 HB312
  go_wp2_with fail
  refine (kept_any a A1 A w.heap.size c1 ca _ (HL13.out.below HB313.out) (HRA.out.below HB13.out) (by omega)).mono ?_
  rintro e w14 ⟨rfl, hb14⟩
  have HB314 := Lib.hid (below_then HB313.out hb14)
  have HB14 := Lib.hid (below_then HB13.out hb14)
  clear hb14
  go_wp2_with fail
  refine (kept_any b A2 B w1.heap.size c2 cb _ (HL23.out.below HB314.out) (HRB.out.below HB14.out) (by omega)).mono ?_
  rintro e w15 ⟨rfl, hb15⟩
  have HB315 := Lib.hid (below_then HB314.out hb15)
  have HB15 := Lib.hid (below_then HB14.out hb15)
  clear hb15
  go_wp2_with fail
  refine (keptAll_any ls A3 C w2.heap.size c3 cl _ (HL3.out.below HB315.out) (HRL.out.below HB15.out) HFL.out (by omega)).mono ?_
  rintro e w16 ⟨rfl, hb16⟩
  have HB16 := Lib.hid (below_then HB15.out hb16)
  clear hb16
  go_wp2_with fail
  refine (known5_any _ (Utf8Tabs_below HT.out HB16.out)).mono ?_
  rintro e w17 ⟨rfl, hb17⟩
  go_wp2
  go_ret
  exact ⟨rfl, below_then HB16.out hb17⟩
theorem ocomp_row (A : Option Addr) (ca : Nat) (a : List CellD) (B : Option Addr) (cb : Nat) (b : List CellD) (C : Option Addr) (cl : Nat) (ls : List (List CellD)) (w : World) (hT : Tabs w) (hc : a.length ≤ ca) (hr : Reads w A a) (hs : ∀ j (h : j < a.length), (a[j]).text.size ≤ 9223372036854775807) (hy : a.length * 32 ≤ 140737488351232) (hd : b.length ≤ cb) (hr2 : Reads w B b) (hs2 : ∀ j (h : j < b.length), (b[j]).text.size ≤ 9223372036854775807) (hy2 : b.length * 32 ≤ 140737488351232) (hck : ls.length ≤ cl) (hr3 : Reads2 w C ls) (hf3 : Fine2 ls) (hn : ls.length * 24 ≤ 140737488351232) :
    Calls Tryd.prog 5 #[.slice A a.length ca, .slice B b.length cb, .slice C ls.length cl] w fun e w' => e = .returned (.bool true) ∧ Below w.heap.size w w' :=
  ocomp_any a b ls A B C ca cb cl w hr ⟨hy, hs⟩ hr2 ⟨hy2, hs2⟩ hr3 hf3 hn hT
end Go.Proofs.YtfeaolnklooanaaDoor.Tm
