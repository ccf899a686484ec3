/- Layer 3's law: asked. -/
import Derived.Test.YtejcbpbhhofhlaaDoorRgK
import Derived.Test.YtejcbpbhhofhlaaDoorRgF
namespace Go.Proofs.YtejcbpbhhofhlaaDoor.Tm
open Go.RowKit
set_option linter.unusedVariables false
set_option linter.unusedSimpArgs false

theorem tells_list {l : List ObjA} : ∀ {ps : List Int}, (∀ p ∈ ps, ∃ t, Tells l [p] t) → ∃ t, Tells l ps t
  | [], _ => ⟨[], .nil⟩
  | p :: ps, h => by
    obtain ⟨t, ht⟩ := h p (by simp)
    obtain ⟨u, hu⟩ := tells_list (ps := ps) (fun q hq => h q (by simp [hq]))
    exact ⟨t ++ u, by simpa using ht.append hu⟩
theorem tells_below {l : List ObjA} (hw : WfA l) : ∀ (n : Nat) (x : Int) (k : Int), findA l x = some k → k < n → ∃ t, Tells l [x] t
  | 0, x, k, hf, hk => by
    have hlt := findA_lt hf
    have hk1 : k = -1 := by omega
    subst hk1
    refine ⟨[cellW x], .cons (ps := []) ?_ .nil⟩
    unfold seenA
    rw [hf]
    rfl
  | n + 1, x, k, hf, hk => by
    by_cases h : k < n
    · exact tells_below hw n x k hf h
    · have hkn : k = (n : Int) := by omega
      subst hkn
      have hlt := findA_lt hf
      have hn : n < l.length := by omega
      have hs : seenA l x = some (l[n].cell, l[n].parts) := by
        unfold seenA
        rw [hf]
        simp only
        rw [if_neg (by omega), Int.toNat_natCast, List.getElem?_eq_getElem hn]
        rfl
      obtain ⟨t, ht⟩ := tells_list (l := l) (ps := l[n].parts) (fun p hp => by
        obtain ⟨j, hj⟩ := Option.isSome_iff_exists.1 ((hw n hn).parts p hp).1
        have hjl := findA_lt hj
        rw [List.length_take] at hjl
        exact tells_below hw n p j ((ext_take l n).find hj) (by omega))
      exact ⟨l[n].cell :: t, .cons hs (by simpa using ht)⟩
theorem tells_exists {l : List ObjA} (hw : WfA l) {x : Int} (hf : (findA l x).isSome = true) : ∃ t, Tells l [x] t := by
  obtain ⟨k, hk⟩ := Option.isSome_iff_exists.1 hf
  have := findA_lt hk
  exact tells_below hw l.length x k hk this.2
theorem seen_none {l : List ObjA} {x : Int} (h : findA l x = none) : seenA l x = none := by unfold seenA; rw [h]
theorem acost_none (w : World) (O : Nat → Prop) (ba room : Nat) (l : List ObjA) (x : Int) (h0 : 0 ≤ x) (h1 : x < 18446744073709551616) (h : ArAt w O ba room l) (hs : seenA l x = none) :
    Calls Tryd.prog 15 #[.pointer (some ⟨ba, 0, none⟩), .int .u64 x] w fun e w' => e = .returned (.tuple #[.int .i64 0, .int .i64 31]) ∧ Below w.heap.size w w' := by
  have hseen := seen_any w O ba room l x h0 h1 h
  rw [hs] at hseen
  go_enter Tryd.func15, Tryd.ntmps15
  go_wp2_with fail
  refine hseen.mono ?_
  rintro e w1 ⟨he, hB⟩
  obtain rfl : e = _ := he
  rw [cell_seen_agg]
  go_wp2
  go_ret2
  exact ⟨rfl, below_alloc' hB _⟩
theorem size_none (w : World) (O : Nat → Prop) (ba room : Nat) (l : List ObjA) (x : Int) (h0 : 0 ≤ x) (h1 : x < 18446744073709551616) (h : ArAt w O ba room l) (hs : seenA l x = none) :
    Calls Tryd.prog 20 #[.pointer (some ⟨ba, 0, none⟩), .int .u64 x] w fun e w' => e = .returned (.tuple #[.int .i64 0, .int .i64 31]) ∧ Below w.heap.size w w' := by
  have hseen := seen_any w O ba room l x h0 h1 h
  rw [hs] at hseen
  go_enter Tryd.func20, Tryd.ntmps20
  go_wp2_with fail
  refine hseen.mono ?_
  rintro e w1 ⟨he, hB⟩
  obtain rfl : e = _ := he
  rw [cell_seen_agg]
  go_wp2
  go_ret2
  exact ⟨rfl, below_alloc' hB _⟩
set_option maxRecDepth 10000 in
set_option maxHeartbeats 4000000 in
theorem asked_none (w : World) (O OR : Nat → Prop) (ba ra room : Nat) (l : List ObjA) (A : Option Addr) (cap : Nat) (x i : Int) (hA : ArAt w O ba room l) (hR : RfAt w OR ra room (refOf l)) (hr : WReads w A (wordsA 0 l)) (h0 : 0 ≤ x) (h1 : x < 18446744073709551616) (hf : findA l x = none) :
    Calls Tryd.prog 45 #[.pointer (some ⟨ba, 0, none⟩), .pointer (some ⟨ra, 0, none⟩), .slice A l.length cap, .int .u64 x, .int .i64 i] w fun e w' => e = .returned (.bool true) ∧ Below w.heap.size w w' := by
  have hs := seen_none hf
  have hlims := hA.lims
  have hv := value_any w OR ra room l A cap x h0 h1 hR hA.wf (by omega) hr
  rw [hf, show valR l x = ⟨0, zeroR⟩ by unfold valR; rw [hf]] at hv
  have HA := Lib.hid hA
  have HS := Lib.hid hs
  have hac := fun W (hB : Below w.heap.size w W) => acell_any W O ba room l x h0 h1 (hA.below hB)
  have hap := fun W (hB : Below w.heap.size w W) => apart_any W O ba room l x i h0 h1 (hA.below hB)
  rw [hs] at hac hap
  have HAC := Lib.hid hac
  have HAP := Lib.hid hap
  clear hA hR hr hf hs hac hap
  go_enter Tryd.func45, Tryd.ntmps45
  go_wp2_with fail
  refine hv.mono ?_
  rintro e w1 ⟨rfl, hb1⟩
  simp only [ValR.agg, zeroR, Option.isSome_none]
  have hB1 := below_alloc' hb1 (.cells #[.int .i64 0, .int .i64 0, .int .i64 0, .string ⟨#[]⟩] 39)
  go_wp2_with fail
  refine (get_none _ O ba room l x h0 h1 (HA.out.below hB1) HS.out).mono ?_
  rintro e w2 ⟨rfl, hb2⟩
  have hB2 := below_then hB1 hb2
  go_wp2_with fail
  refine (HAC.out _ hB2).mono ?_
  rintro e w3 ⟨rfl, hb3⟩
  simp only [cellS, errS, zeroC, CellD.agg]
  have hB3 := below_alloc' (below_then hB2 hb3) (.cells #[.int .i64 0, .int .i64 0, .string ⟨#[]⟩] 37)
  have BC : BlkIs (w3.alloc (.cells #[.int .i64 0, .int .i64 0, .string ⟨#[]⟩] 37)) w3.heap.size #[.int .i64 0, .int .i64 0, .string ⟨#[]⟩] 37 := heap_new w3 _
  have HBC := Lib.hid BC
  clear BC
  go_wp2_with fail
  refine (HAP.out _ hB3).mono ?_
  rintro e w4 ⟨rfl, hb4⟩
  simp only [partX, partE]
  have hB4 := below_then hB3 hb4
  go_wp2_with fail
  refine (acost_none _ O ba room l x h0 h1 (HA.out.below hB4) HS.out).mono ?_
  rintro e w5 ⟨rfl, hb5⟩
  have hB5 := below_then hB4 hb5
  go_wp2_with fail
  refine (size_none _ O ba room l x h0 h1 (HA.out.below hB5) HS.out).mono ?_
  rintro e w6 ⟨rfl, hb6⟩
  have hB6 := below_then hB5 hb6
  have B6 := ((HBC.out.below hb4).below hb5).below hb6
  have k0 := B6.cell 0 (v := .int .i64 0) rfl
  have k1 := B6.cell 1 (v := .int .i64 0) rfl
  have k2 := B6.cell 2 (v := .string ⟨#[]⟩) rfl
  clear B6
  go_wp2
  go_ret
  exact ⟨by first | rfl | simp, hB6⟩
def ttOf (t : List CellD) : List CellD := if t.length ≤ 1024 then t else []
def erOf (t : List CellD) : Int := if t.length ≤ 1024 then 0 else 7
theorem ttOf_len (t : List CellD) : (ttOf t).length ≤ 1024 := by unfold ttOf; split <;> simp_all
theorem get_tt (w : World) (O : Nat → Prop) (ba room : Nat) (l : List ObjA) (x : Int) (t : List CellD) (h0 : 0 ≤ x) (h1 : x < 18446744073709551616) (h : ArAt w O ba room l) (ht : Tells l [x] t) :
    Calls Tryd.prog 12 #[.pointer (some ⟨ba, 0, none⟩), .int .u64 x] w fun e w' => (∃ A c, e = .returned (.tuple #[.slice A (ttOf t).length c, .int .i64 (erOf t)]) ∧ w'.ownsRow w.heap.size 37 3 (.slice A (ttOf t).length c) (ttOf t).length (encs (ttOf t))) ∧ Below w.heap.size w w' := by
  unfold ttOf erOf
  by_cases hl : t.length ≤ 1024
  · simp only [if_pos hl]
    exact get_fine w O ba room l x t h0 h1 h ht hl
  · simp only [if_neg hl]
    refine (get_big w O ba room l x t h0 h1 h ht hl).mono ?_
    rintro e w' ⟨rfl, hB⟩
    exact ⟨⟨none, 0, rfl, row_nil _ _ _ _⟩, hB⟩
theorem rget_tt (w : World) (O : Nat → Prop) (ra cells : Nat) (l : List ObjA) (x : Int) (t : List CellD) (h : RfAt w O ra cells (refOf l)) (hw : WfA l) (hll : l.length ≤ 1000000) (ht : Tells l [x] t) :
    Calls Tryd.prog 67 #[.pointer (some ⟨ra, 0, none⟩), (valR l x).agg] w fun e w' => (∃ A c, e = .returned (.tuple #[.slice A (ttOf t).length c, .int .i64 (erOf t)]) ∧ w'.ownsRow w.heap.size 37 3 (.slice A (ttOf t).length c) (ttOf t).length (encs (ttOf t))) ∧ Below w.heap.size w w' := by
  refine (rget_any w O ra cells l x t h hw hll ht).mono ?_
  rintro e w' ⟨hg, hB⟩
  unfold ttOf erOf
  unfold IsRGet at hg
  by_cases hl : t.length ≤ 1024
  · simp only [if_pos hl] at hg ⊢
    exact ⟨hg, hB⟩
  · simp only [if_neg hl] at hg ⊢
    exact ⟨⟨none, 0, hg, row_nil _ _ _ _⟩, hB⟩
theorem part_ok {l : List ObjA} (hw : WfA l) {x i : Int} {c : CellD} {ps : List Int} (hs : seenA l x = some (c, ps)) (h : partE (some (c, ps)) i = 0) : FindOk l (partX (some (c, ps)) i) ∧ rpartV l c ps i = valR l (partX (some (c, ps)) i) := by
  have e1 : partX (some (c, ps)) i = ps.getD i.toNat 0 := by unfold partX; simp only; rw [if_pos h]
  have e2 : rpartV l c ps i = valR l (ps.getD i.toNat 0) := by unfold rpartV; rw [if_pos h]
  have hi : i.toNat < ps.length := by
    unfold partE at h
    simp only at h
    split at h
    · omega
    · split at h
      · omega
      · rename_i h2; omega
  refine ⟨?_, by rw [e1, e2]⟩
  rw [e1]
  have : ps.getD i.toNat 0 = ps[i.toNat] := by simp [hi]
  rw [this]
  exact seen_parts hw hs _ (List.getElem_mem _)
theorem part_bad {c : CellD} {ps : List Int} {i : Int} (h : partE (some (c, ps)) i ≠ 0) : partX (some (c, ps)) i = 0 := by unfold partX; simp only; rw [if_neg h]
set_option maxRecDepth 10000 in
set_option maxHeartbeats 8000000 in
theorem asked_some (w : World) (O OR : Nat → Prop) (ba ra room : Nat) (l : List ObjA) (A : Option Addr) (cap : Nat) (x i : Int) (hA : ArAt w O ba room l) (hR : RfAt w OR ra room (refOf l)) (hT : TabsA w) (hr : WReads w A (wordsA 0 l)) (h0 : 0 ≤ x) (h1 : x < 18446744073709551616) (hf : (findA l x).isSome = true) (hcs : ∀ o ∈ l, WfC o.cell) :
    Calls Tryd.prog 45 #[.pointer (some ⟨ba, 0, none⟩), .pointer (some ⟨ra, 0, none⟩), .slice A l.length cap, .int .u64 x, .int .i64 i] w fun e w' => e = .returned (.bool true) ∧ Below w.heap.size w w' := by
  have hlims := hA.lims
  have hwf := hA.wf
  have hll := hwf.len
  obtain ⟨t, ht⟩ := tells_exists hwf hf
  obtain ⟨⟨c, ps⟩, hs⟩ := tells_ok ht x (by simp)
  obtain ⟨k, hvk, _, _, _⟩ := parts_val hwf hs
  have hcell : WfC c ∧ cellE c = 0 := by
    rcases seen_obj hs with ⟨_, e, _⟩ | ⟨j, hj, _, e, _⟩
    · rw [e]
      unfold cellW
      split
      · exact ⟨⟨by simp, by simp, by simp [ByteArray.size]⟩, by simp [cellE, ByteArray.size]⟩
      · exact ⟨⟨by simp only; unfold valW; omega, by simp only; unfold valW; omega, by simp [ByteArray.size]⟩, by simp [cellE, ByteArray.size]⟩
    · rw [e]; exact ⟨hcs _ (List.getElem_mem _), (hwf j hj).good⟩
  have hsz := tells_size hwf ht
  have hv := value_any w OR ra room l A cap x h0 h1 hR hwf (by omega) hr
  rw [hf] at hv
  have HA := Lib.hid hA
  have HR := Lib.hid hR
  have HT := Lib.hid hT
  have HWR := Lib.hid hr
  have HWF := Lib.hid hwf
  have HTL := Lib.hid ht
  have HS := Lib.hid hs
  have HCE := Lib.hid hcell
  have hac := fun W (hB : Below w.heap.size w W) => acell_any W O ba room l x h0 h1 (hA.below hB)
  have hap := fun W (hB : Below w.heap.size w W) => apart_any W O ba room l x i h0 h1 (hA.below hB)
  have hsa := fun W (hB : Below w.heap.size w W) => size_any W O ba room l x h0 h1 (hA.below hB) (by rw [hs]; rfl)
  have hrp := fun W (hB : Below w.heap.size w W) => rpart_any W OR ra room l x i c ps (hR.below hB) hwf (by omega) hs
  have hrg := fun W (hB : Below w.heap.size w W) => rget_tt W OR ra room l x t (hR.below hB) hwf (by omega) ht
  have hrt := fun W (hB : Below w.heap.size w W) => rterm_any W OR ra room l x t (hR.below hB) hwf (by omega) ht
  rw [hs] at hac hap
  rw [hsz] at hsa
  rw [hvk] at hv hrp hrg hrt
  simp only [ValR.agg] at hv hrp hrg hrt
  simp only [cellS, errS, CellD.agg] at hac
  have hmin : (t.take 1025).length = min t.length 1025 := by rw [List.length_take]; omega
  obtain ⟨u, hu⟩ : ∃ u, t.take 1025 = u := ⟨_, rfl⟩
  rw [hu] at hmin hrt
  rw [← hmin] at hsa
  obtain ⟨tt, htt⟩ : ∃ q, ttOf t = q := ⟨_, rfl⟩
  obtain ⟨er, her⟩ : ∃ q, erOf t = q := ⟨_, rfl⟩
  have hgt := fun W (hB : Below w.heap.size w W) => get_tt W O ba room l x t h0 h1 (hA.below hB) ht
  rw [htt, her] at hrg hgt
  have httl : tt.length ≤ 1024 := by rw [← htt]; exact ttOf_len t
  obtain ⟨PE, hPE⟩ : ∃ q, partE (some (c, ps)) i = q := ⟨_, rfl⟩
  obtain ⟨PX, hPX⟩ : ∃ q, partX (some (c, ps)) i = q := ⟨_, rfl⟩
  obtain ⟨PV, hPV⟩ : ∃ q, rpartV l c ps i = q := ⟨_, rfl⟩
  have hpo : PE = 0 → FindOk l PX ∧ PV = valR l PX := fun e => by
    rw [← hPX, ← hPV]; exact part_ok hwf hs (by rw [hPE]; exact e)
  have hpb : PE ≠ 0 → PX = 0 := fun e => by rw [← hPX]; exact part_bad (by rw [hPE]; exact e)
  rw [hPE, hPX] at hap
  rw [hPE, hPV] at hrp
  have HAC := Lib.hid hac
  have HAP := Lib.hid hap
  have HSA := Lib.hid hsa
  have HRP := Lib.hid hrp
  have HRG := Lib.hid hrg
  have HRT := Lib.hid hrt
  have HGT := Lib.hid hgt
  have HPO := Lib.hid hpo
  have HPB := Lib.hid hpb
  clear hA hR hT hr hwf ht hs hcell hac hap hsa hrp hrg hrt hgt hpo hpb hsz hvk hmin hu htt her hPE hPX hPV hf hcs
  go_enter Tryd.func45, Tryd.ntmps45
  go_wp2_with fail
  refine hv.mono ?_
  rintro e w1 ⟨rfl, hb1⟩
  have hs01 := hb1.size
  have hB1 := below_alloc' hb1 (.cells #[.int .i64 k, .int .i64 c.kind, .int .i64 c.n, .string c.text] 39)
  have BV : BlkIs (w1.alloc (.cells #[.int .i64 k, .int .i64 c.kind, .int .i64 c.n, .string c.text] 39)) w1.heap.size #[.int .i64 k, .int .i64 c.kind, .int .i64 c.n, .string c.text] 39 := heap_new w1 _
  have HBV := Lib.hid BV
  clear BV hv
  go_wp2_with fail
  refine (HGT.out _ hB1).mono ?_
  rintro e w2 ⟨⟨A2, c2, rfl, hrow2⟩, hb2⟩
  have hB2 := below_then hB1 hb2
  go_wp2_with fail
  refine (HAC.out _ hB2).mono ?_
  rintro e w3 ⟨rfl, hb3⟩
  have hB3 := below_alloc' (below_then hB2 hb3) (.cells #[.int .i64 c.kind, .int .i64 c.n, .string c.text] 37)
  have BC : BlkIs (w3.alloc (.cells #[.int .i64 c.kind, .int .i64 c.n, .string c.text] 37)) w3.heap.size #[.int .i64 c.kind, .int .i64 c.n, .string c.text] 37 := heap_new w3 _
  have HBC := Lib.hid BC
  have hs23 := hb3.size
  clear BC
  go_wp2_with fail
  refine (HAP.out _ hB3).mono ?_
  rintro e w4 ⟨rfl, hb4⟩
  have hB4 := below_then hB3 hb4
  go_wp2_with fail
  refine (acost_any _ O ba room l x c ps h0 h1 (HA.out.below hB4) (HT.out.below hB4) HS.out HCE.out.1 HCE.out.2).mono ?_
  rintro e w5 ⟨rfl, hb5⟩
  have hB5 := below_then hB4 hb5
  go_wp2_with fail
  refine (HSA.out _ hB5).mono ?_
  rintro e w6 ⟨rfl, hb6⟩
  have hB6 := below_then hB5 hb6
  have BV6 := ((((HBV.out.below hb2).below hb3).below (below_one _ _)).below hb4 |>.below hb5).below hb6
  have BC6 := ((HBC.out.below hb4).below hb5).below hb6
  have v0 := BV6.cell 0 (v := .int .i64 k) rfl
  have v1 := BV6.cell 1 (v := .int .i64 c.kind) rfl
  have v2 := BV6.cell 2 (v := .int .i64 c.n) rfl
  have v3 := BV6.cell 3 (v := .string c.text) rfl
  go_wp2_with fail
  refine (HRG.out _ hB6).mono ?_
  rintro e w7 ⟨⟨A7, c7, rfl, hrow7⟩, hb7⟩
  have hB7 := below_then hB6 hb7
  have v0 := cell_below hb7 v0
  have v1 := cell_below hb7 v1
  have v2 := cell_below hb7 v2
  have v3 := cell_below hb7 v3
  have HB7 := Lib.hid hB7
  have HRow2 := Lib.hid (row_below (row_below (row_below (row_below (row_below (row_below hrow2 hb3) (below_one _ (.cells #[.int .i64 c.kind, .int .i64 c.n, .string c.text] 37))) hb4) hb5) hb6) hb7)
  have HRow7 := Lib.hid hrow7
  have hRow7s : Hid (w1.heap.size ≤ w7.heap.size) := Lib.hid (by
    have a0 := hb2.size
    have a1 := hb3.size
    have a2 := hb4.size
    have a3 := hb5.size
    have a4 := hb6.size
    have a5 := hb7.size
    rw [World.size_alloc] at a0 a2
    omega)
  have hlt2 := Lib.hid (row_lt hrow2)
  have hrb2 := Lib.hid (row_base hrow2)
  have hs26 : w2.heap.size ≤ w6.heap.size := by
    have a1 := hb3.size
    have a2 := hb4.size
    have a3 := hb5.size
    have a4 := hb6.size
    rw [World.size_alloc] at a2
    omega
  have BC7 := Lib.hid (BC6.below hb7)
  have BV7 := Lib.hid (BV6.below hb7)
  have hs12 := hB1.size
  clear hB1 hB2 hB3 hB4 hB5 hB6 hB7 hb1 hb2 hb3 hb4 hb5 hb6 hb7 BV6 BC6 HBV HBC hrow2 hrow7
  go_wp2_with fail
  refine (HRP.out _ HB7.out).mono ?_
  rintro e w8 ⟨rfl, hb8⟩
  have hb8' := below_alloc' hb8 (.cells #[.int .i64 PV.obj, .int .i64 PV.cell.kind, .int .i64 PV.cell.n, .string PV.cell.text] 39)
  have BQ : BlkIs (w8.alloc (.cells #[.int .i64 PV.obj, .int .i64 PV.cell.kind, .int .i64 PV.cell.n, .string PV.cell.text] 39)) w8.heap.size #[.int .i64 PV.obj, .int .i64 PV.cell.kind, .int .i64 PV.cell.n, .string PV.cell.text] 39 := heap_new w8 _
  have HBQ := Lib.hid BQ
  have HB8 := Lib.hid hb8'
  have hsm := rsame_any A2 A7 c2 c7 tt tt _ (Reads.of_row (row_below HRow2.out hb8')) (Reads.of_row (row_below HRow7.out hb8')) (by omega) (by omega)
  rw [show decide (tt = tt) = true by simp] at hsm
  clear hb8 hb8' BQ v0 v1 v2 v3
  go_wp2_with fail
  refine hsm.mono ?_
  rintro e w9 ⟨rfl, hb9⟩
  have HB9 := Lib.hid (below_then HB8.out hb9)
  have BV9 := BV7.out.below HB9.out
  have BC9 := BC7.out.below HB9.out
  have v0 := BV9.cell 0 (v := .int .i64 k) rfl
  have v1 := BV9.cell 1 (v := .int .i64 c.kind) rfl
  have v2 := BV9.cell 2 (v := .int .i64 c.n) rfl
  have v3 := BV9.cell 3 (v := .string c.text) rfl
  have d0 := BC9.cell 0 (v := .int .i64 c.kind) rfl
  have d1 := BC9.cell 1 (v := .int .i64 c.n) rfl
  have d2 := BC9.cell 2 (v := .string c.text) rfl
  have hee : (er != er) = false := by simp
  have hpp : (PE != PE) = false := by simp
  have HBQ9 := Lib.hid (HBQ.out.below hb9)
  clear hsm hb9 BV9 BC9
  have hzz : ((costC c : Int) != (costC c : Int)) = false := by simp
  have huu : ((u.length : Int) != (u.length : Int)) = false := by simp
  go_wp2_with fail
  refine (rcost_any c _ HCE.out.1 HCE.out.2).mono ?_
  rintro e w10 ⟨rfl, hb10⟩
  have v0 := cell_below hb10 v0
  have v1 := cell_below hb10 v1
  have v2 := cell_below hb10 v2
  have v3 := cell_below hb10 v3
  have hb7x := below_then HB9.out hb10
  go_wp2_with fail
  refine (HRT.out _ (below_then HB7.out hb7x)).mono ?_
  rintro e w11 ⟨A11, c11, rfl, _, hb11⟩
  have HB11 := Lib.hid (below_then hb7x hb11)
  have HBQ11 := Lib.hid ((HBQ9.out.below hb10).below hb11)
  have p0 := HBQ11.out.cell 0 (v := .int .i64 PV.obj) rfl
  have p1 := HBQ11.out.cell 1 (v := .int .i64 PV.cell.kind) rfl
  have p2 := HBQ11.out.cell 2 (v := .int .i64 PV.cell.n) rfl
  have p3 := HBQ11.out.cell 3 (v := .string PV.cell.text) rfl
  clear v0 v1 v2 v3 d0 d1 d2 hb10 hb7x hb11
  have tail : ∀ W, Below w7.heap.size w7 W → Hid (Below w.heap.size w W ∧ W.ownsRow w1.heap.size 37 3 (.slice A2 tt.length c2) tt.length (encs tt)) := fun W hB => Lib.hid ⟨below_then HB7.out hB, row_mono (row_below HRow2.out hB) (by rw [World.size_alloc]; omega)⟩
  by_cases hPE : PE = 0
  · subst hPE
    obtain ⟨hfx, hpv⟩ := HPO.out rfl
    have hm := means_true w11 OR ra room l A cap PX hfx.2.1 hfx.2.2 (HR.out.below (below_then HB7.out HB11.out)) HWF.out (by omega) (HWR.out.below (below_then HB7.out HB11.out)) hfx.1
    rw [← hpv] at hm
    unfold ValR.agg at hm
    clear hpv hfx
    go_wp2_with fail
    refine hm.mono ?_
    rintro e w12 ⟨rfl, hb12⟩
    have HB12 := Lib.hid (below_then HB11.out hb12)
    go_wp2_with fail
    obtain ⟨hBa, hRa⟩ := (tail _ HB12.out).out
    have hsp := spoil_any A2 tt.length c2 w1.heap.size (encs tt) w12 hRa (by have h1 := HB12.out.size; have h2 := HB7.out.size; have h3 := hRow7s.out; omega) (by omega)
    refine hsp.mono ?_
    rintro e w13 ⟨rfl, hg13⟩
    have hB13 : Below w.heap.size w w13 := below_grown hBa hg13 (fun q hq => by have := row_base hRa q hq; omega)
    have hR7 : w13.ownsRow w6.heap.size 37 3 (.slice A7 tt.length c7) tt.length (encs tt) := (row_below HRow7.out HB12.out).kept hg13 (by
      cases hq : (Value.slice A7 tt.length c7).ownBlock with
      | none => exact .inl rfl
      | some q => exact .inr (fun e => by
          have h1 := row_base HRow7.out q hq
          have h2 := hlt2.out q e.symm
          omega))
    have HR7 := Lib.hid hR7
    have HB13 := Lib.hid hB13
    clear hsp hg13 hBa hRa hB13 hR7
    go_wp2_with fail
    refine (HGT.out _ HB13.out).mono ?_
    rintro e w14 ⟨⟨A14, c14, rfl, hrow14⟩, hb14⟩
    have hsm2 := rsame_any A14 A7 c14 c7 tt tt w14 (Reads.of_row hrow14) (Reads.of_row (row_below HR7.out hb14)) (by omega) (by omega)
    rw [show decide (tt = tt) = true by simp] at hsm2
    go_wp2_with fail
    refine hsm2.mono ?_
    rintro e w15 ⟨rfl, hb15⟩
    go_wp2
    go_ret
    exact ⟨rfl, below_then (below_then HB13.out hb14) hb15⟩
  · have hPEb : (PE == 0) = false := beq_eq_false_iff_ne.2 hPE
    have hPEn : (PE != 0) = true := by rw [bne_iff_ne]; exact hPE
    have hpx := HPB.out hPE
    subst hpx
    obtain ⟨w12, hw12⟩ : ∃ W, W = w11 := ⟨_, rfl⟩
    subst hw12
    have HB12 := HB11
    clear hPE
    go_wp2_with fail
    obtain ⟨hBa, hRa⟩ := (tail _ HB12.out).out
    have hsp := spoil_any A2 tt.length c2 w1.heap.size (encs tt) w12 hRa (by have h1 := HB12.out.size; have h2 := HB7.out.size; have h3 := hRow7s.out; omega) (by omega)
    refine hsp.mono ?_
    rintro e w13 ⟨rfl, hg13⟩
    have hB13 : Below w.heap.size w w13 := below_grown hBa hg13 (fun q hq => by have := row_base hRa q hq; omega)
    have hR7 : w13.ownsRow w6.heap.size 37 3 (.slice A7 tt.length c7) tt.length (encs tt) := (row_below HRow7.out HB12.out).kept hg13 (by
      cases hq : (Value.slice A7 tt.length c7).ownBlock with
      | none => exact .inl rfl
      | some q => exact .inr (fun e => by
          have h1 := row_base HRow7.out q hq
          have h2 := hlt2.out q e.symm
          omega))
    have HR7 := Lib.hid hR7
    have HB13 := Lib.hid hB13
    clear hsp hg13 hBa hRa hB13 hR7
    go_wp2_with fail
    refine (HGT.out _ HB13.out).mono ?_
    rintro e w14 ⟨⟨A14, c14, rfl, hrow14⟩, hb14⟩
    have hsm2 := rsame_any A14 A7 c14 c7 tt tt w14 (Reads.of_row hrow14) (Reads.of_row (row_below HR7.out hb14)) (by omega) (by omega)
    rw [show decide (tt = tt) = true by simp] at hsm2
    go_wp2_with fail
    refine hsm2.mono ?_
    rintro e w15 ⟨rfl, hb15⟩
    go_wp2
    go_ret
    exact ⟨rfl, below_then (below_then HB13.out hb14) hb15⟩
theorem asked_true (w : World) (O OR : Nat → Prop) (ba ra room : Nat) (l : List ObjA) (A : Option Addr) (cap : Nat) (x i : Int) (hA : ArAt w O ba room l) (hR : RfAt w OR ra room (refOf l)) (hT : TabsA w) (hr : WReads w A (wordsA 0 l)) (h0 : 0 ≤ x) (h1 : x < 18446744073709551616) (hcs : ∀ o ∈ l, WfC o.cell) :
    Calls Tryd.prog 45 #[.pointer (some ⟨ba, 0, none⟩), .pointer (some ⟨ra, 0, none⟩), .slice A l.length cap, .int .u64 x, .int .i64 i] w fun e w' => e = .returned (.bool true) ∧ Below w.heap.size w w' := by
  cases hf : findA l x with
  | none => exact asked_none w O OR ba ra room l A cap x i hA hR hr h0 h1 hf
  | some k => exact asked_some w O OR ba ra room l A cap x i hA hR hT hr h0 h1 (by rw [hf]; rfl) hcs
end Go.Proofs.YtejcbpbhhofhlaaDoor.Tm
