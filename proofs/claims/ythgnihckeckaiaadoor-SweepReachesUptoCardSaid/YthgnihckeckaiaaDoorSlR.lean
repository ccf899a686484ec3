/- SweepReaches: the walk. -/
import Derived.Test.YthgnihckeckaiaaDoorSwI
import Derived.Test.YthgnihckeckaiaaDoorSwT
import Derived.Test.YthgnihckeckaiaaDoorSwB
import Derived.Test.YthgnihckeckaiaaDoorSwV
namespace Go.Proofs.YthgnihckeckaiaaDoor.Tm
open Go.RowKit Go.Shelf
set_option linter.unusedVariables false
set_option linter.unusedSimpArgs false

theorem WReads.take_ap {w : World} {A : Option Addr} {l m : List Int} (h : WReads w A (l ++ m)) : WReads w A l := by
  have := h.take l.length
  rwa [List.take_left'] at this
  rfl
set_option maxRecDepth 10000 in
set_option maxHeartbeats 16000000 in
theorem sweepReaches_row (A : Option Addr) (cap : Nat) (ops : List Op4) (A1 : Option Addr) (cap1 : Nat) (rs : List RootD) (n : Int) (w : World) (hT : TabsA w) (hcap : ops.length ≤ cap) (hr : Script4 w A ops) (hk : ∀ op ∈ ops, Op4Ok op) (hl : ops.length ≤ 1000000000000000) (hcap1 : rs.length ≤ cap1) (hrr : RtReads w A1 rs) (hrk : ∀ j (h : j < rs.length), RootOk rs[j]) (hrl : rs.length ≤ 1048576) (wn : (Lit.int .i64 n).wf = true) :
    Calls Tryd.prog 13 #[.slice A ops.length cap, .slice A1 rs.length cap1, .int .i64 n] w fun e w' => e = .returned (.bool true) ∧ Below w.heap.size w w' := by
  have hn : -9223372036854775808 ≤ n ∧ n < 9223372036854775808 := by simp [Lit.wf, IntKind.min, IntKind.max] at wn; simp [IntKind.signed, IntKind.bits] at wn; omega
  have hmk := smade_any w ops A cap hT hr hk hl hcap
  have HT := Lib.hid hT
  have HRR := Lib.hid hrr
  have HRK := Lib.hid hrk
  have hkn := fun V (hb : Below w.heap.size w V) => sknown_any V (hT.below hb)
  have HK := Lib.hid hkn
  clear hT hr hk hrr hrk hkn wn
  go_enter Tryd.func13, Tryd.ntmps13
  go_wp2_with fail
  refine hmk.mono ?_
  rintro e w1 ⟨ba, O, L, rfl, hS⟩
  have HS := Lib.hid hS
  have hch := chosen23_any w1 O ba 20000 L rs A1 cap1 hS.ar (HRR.out.below hS.base) HRK.out (by omega)
  clear hmk hS
  go_wp2_with fail
  refine hch.mono ?_
  rintro e w2 ⟨A2, c2, r, rfl, hC⟩
  have HB2 := Lib.hid (below_then HS.out.base hC.base)
  have HR2 := Lib.hid (WReads.of_row hC.row)
  have hrlen := hC.len
  have HLEN := Lib.hid hrlen
  have HRNG := Lib.hid hC.rng
  have HA2 := Lib.hid (HS.out.ar.below hC.base)
  have hs2 := HB2.out.size
  have hrle : r.length ≤ 1048576 := by omega
  obtain ⟨i0, hi, hz0, hz1, hz2⟩ := info_parts word_info
  clear hch hC hrlen
  go_wp2_with (first
    | (at_builtin
       refine wpList_app _ rfl (.tmp 24) (.tmp 25) _ rfl w2.heap.size 27 i0 (.int .u64 0) 1 8 Tryd.underlying31 hi hz0 hz1 hz2 rfl (by decide) (.slice none 0 0) 0 [] rfl (row_nil _ _ _ _) A2 r.length c2 (encW r) rfl (Src.of_wreads HR2.out) (by unfold maxLen; omega) (by omega) (Nat.le_refl _) ?_
       intro v3 w3 hown3 hgrow3 hat3
       rw [Nat.zero_add, List.nil_append] at hown3
       obtain ⟨A3, c3, rfl⟩ := row_slice hown3
       have HOW3 := Lib.hid hown3
       have hs3 := hgrow3.size)
    | (at_builtin
       refine wpList_append_own_at _ rfl (.tmp 27) (.tmp 28) _ rfl w2.heap.size 27 i0 (.int .u64 0) 1 8 Tryd.underlying31 hi hz0 hz1 hz2 rfl (by decide) (.slice A3 r.length c3) r.length (encW r) rfl (HOW3.out.alloc _) ⟨w3.heap.size, 0, none⟩ 1 1 [.int .u64 4321] rfl rfl (cell_one_new _ _ _) (by simp [Value.oneCell']) (by unfold maxLen; omega) (by omega) (by rw [World.size_alloc]; omega) ?_
       intro v4 w4 hown4 hgrow4 hnil4 hat4
       have HOW4 := Lib.hid hown4
       obtain ⟨g4, c4, rfl⟩ := ownsRow_succ hown4))
  have hB23 : Below w2.heap.size w2 w3 := (Below.refl _ _).grown hgrow3 (Nat.le_refl _) (fun k e => by simp [Value.ownBlock] at e)
  have hB24 : Below w2.heap.size w2 w4 := below_grown (below_alloc' hB23 _) hgrow4 (row_base HOW3.out)
  have HB24 := Lib.hid hB24
  have hlr1 : (r ++ [4321]).length = r.length + 1 := by simp
  have HOWN := Lib.hid (show WReads w4 (some ⟨g4, 0, none⟩) (r ++ [4321]) from by
    have h := HOW4.out
    have e : encW r ++ [.int .u64 4321] = encW (r ++ [4321]) := by simp [encW]
    rw [e, ← hlr1] at h
    exact WReads.of_row h)
  have hcap4 : r.length + 1 ≤ c4 := by
    rcases HOW4.out.2 with ⟨_, h0⟩ | ⟨g, cap, cur, e, _, _, hc, _⟩
    · omega
    · injection e with e1 e2 e3
      omega
  have HA4 := Lib.hid (HA2.out.below hB24)
  have HR4 := Lib.hid (HR2.out.below hB24)
  have HB4 := Lib.hid (below_then HB2.out hB24)
  have HOR := Lib.hid HOWN.out.take_ap
  have HOL := Lib.hid (show w4.cell? ⟨g4, r.length, none⟩ = some (.int .u64 4321) from by
    obtain ⟨b, o, e, hc⟩ := HOWN.out r.length (by simp)
    cases e
    have e2 : (r ++ [4321])[r.length]'(by simp) = 4321 := by simp
    rw [e2, Nat.zero_add] at hc
    exact hc)
  have HCELLS := Lib.hid HS.out.cells
  have hul := HA4.out.lims
  have hll := HA4.out.wf.len
  have hlrc := lreach_any w4 O ba 20000 L r A2 c2 HA4.out HR4.out HRNG.out (by omega)
  have hir : (r.length : Int) < ((r.length + 1 : Nat) : Int) := by omega
  have hir2 : (r.length : Int) < (r.length : Int) + 1 := by omega
  have hic : (r.length : Int) ≤ (c4 : Int) := by omega
  have hic2 : r.length ≤ c4 := by omega
  have hr0 : (0 : Int) ≤ (r.length : Int) := Int.natCast_nonneg _
  have h43 : ((4321 : Int) != 4321) = false := rfl
  clear hown3 hgrow3 hat3 hown4 hgrow4 hnil4 hat4 HOW3 HOW4 hB23 hB24 HA2 HR2 HB2 HOWN hlr1 hs3
  by_cases hall : allFind L r = true
  · have hE : rootE L r = 0 := by unfold rootE; rw [if_pos hall]
    have hX0 : rchX L r = rchW L r := by unfold rchX; rw [if_pos hall]
    have hxo : ∀ x ∈ r, FindOk L x := fun x q => ⟨(List.all_eq_true.1 hall) x q, HRNG.out x q⟩
    have hrok := (rch_ok HA4.out.wf hxo).met
    have hRl := hrok.len
    rw [hall, hX0] at hlrc
    have htd0 := fun V (hb : Below w4.heap.size w4 V) A c (hr : WReads V A r) => stold_any V O ba 20000 L r A c 0 (HA4.out.below hb) hr HRNG.out (by omega) hall (by omega)
    have htd := fun V (hb : Below w4.heap.size w4 V) (k : Nat) (hk : k < 4) => stold_any V O ba 20000 L r A2 c2 (k + 1) (HA4.out.below hb) (HR4.out.below hb) HRNG.out (by omega) hall (by omega)
    have hlv := fun V (hb : Below w4.heap.size w4 V) => slive_any V O ba 20000 L r (some ⟨g4, 0, none⟩) c4 (HA4.out.below hb) (HT.out.below (below_then HB4.out hb)) HCELLS.out (HOR.out.below hb) HRNG.out (by omega)
    have hcs := fun V (hb : Below w4.heap.size w4 V) A c (hr : WReads V A (rchW L r)) => scost_any V O ba 20000 L (rchW L r) A c (HA4.out.below hb) (HT.out.below (below_then HB4.out hb)) HCELLS.out hr (fun x hx => (hrok.ok x hx).1) (by omega)
    simp only [hE, hX0] at hlv
    obtain ⟨R, hR⟩ : ∃ R, rchW L r = R := ⟨_, rfl⟩
    simp only [hR] at hlrc htd0 htd hlv hcs hRl
    obtain ⟨N, hN⟩ : ∃ N, costsW L R = N := ⟨_, rfl⟩
    simp only [hN] at hlv hcs
    have htd0' : ∀ V (hb : Below w4.heap.size w4 V) A c (hr : WReads V A r), Calls Tryd.prog 53 #[.pointer (some ⟨ba, 0, none⟩), .slice A r.length c, .int .i64 0] V fun e V' => ∃ A' c', e = .returned (.tuple #[.slice A' R.length c', .int .i64 0]) ∧ WReads V' A' R ∧ Below V.heap.size V V' := fun V hb A c hr => by
      refine (htd0 V hb A c hr).mono ?_
      rintro e V' ⟨A', c', rfl, hrow, hb'⟩
      have e0 : takeM R 0 = R := rfl
      rw [e0] at hrow ⊢
      exact ⟨A', c', rfl, WReads.of_row hrow, hb'⟩
    have htd' : ∀ V (hb : Below w4.heap.size w4 V) (k : Nat) (hk : k < 4), Calls Tryd.prog 53 #[.pointer (some ⟨ba, 0, none⟩), .slice A2 r.length c2, .int .i64 (1 + (k : Int))] V fun e V' => ∃ A' c', e = .returned (.tuple #[.slice A' (R.take (k + 1)).length c', .int .i64 0]) ∧ WReads V' A' (R.take (k + 1)) ∧ Below V.heap.size V V' := fun V hb k hk => by
      have h := htd V hb k hk
      rw [show ((k + 1 : Nat) : Int) = 1 + (k : Int) by omega] at h
      refine h.mono ?_
      rintro e V' ⟨A', c', rfl, hrow, hb'⟩
      have e0 : takeM R (k + 1) = R.take (k + 1) := by unfold takeM; rw [if_neg (by omega)]
      rw [e0] at hrow ⊢
      exact ⟨A', c', rfl, WReads.of_row hrow, hb'⟩
    have HTD0 := Lib.hid htd0'
    have HTD := Lib.hid htd'
    have HLV := Lib.hid hlv
    have HCS := Lib.hid hcs
    have hnn : ((N : Int) != (N : Int)) = false := by simp
    clear htd0 htd0' htd htd' hlv hcs hrok hxo hE hX0 hall hR hN HS
    go_wp2_with fail
    refine hlrc.mono ?_
    rintro e w5 ⟨A5, c5, rfl, hrow5, hb5⟩
    have HR5 := Lib.hid (WReads.of_row hrow5)
    have HB5 := Lib.hid hb5
    have hcap5 : R.length ≤ c5 := row_cap hrow5
    have hd1 := HTD0.out w5 hb5 (some ⟨g4, 0, none⟩) c4 (HOR.out.below hb5)
    clear hlrc hrow5 hb5
    go_wp2_with fail
    refine hd1.mono ?_
    rintro e w6 ⟨A6, c6, rfl, hrd6, hb6⟩
    have HR6 := Lib.hid hrd6
    have HB6 := Lib.hid (below_then HB5.out hb6)
    have HR56 := Lib.hid (HR5.out.below hb6)
    have hl1 := HLV.out w6 HB6.out
    clear hd1 hrd6 hb6 HR5
    go_wp2_with fail
    refine hl1.mono ?_
    rintro e w7 ⟨rfl, hb7⟩
    have HR7 := Lib.hid (HR6.out.below hb7)
    have HB7 := Lib.hid (below_then HB6.out hb7)
    have HR57 := Lib.hid (HR56.out.below hb7)
    have hsw := swords_any w7 r (some ⟨g4, 0, none⟩) A2 c4 c2 (HOR.out.below HB7.out) (HR4.out.below HB7.out) (by omega)
    clear hl1 hb7 HR6 HR56
    go_wp2_with fail
    refine hsw.mono ?_
    rintro e w8 ⟨rfl, hb8⟩
    have HR8 := Lib.hid (HR7.out.below hb8)
    have HB8 := Lib.hid (below_then HB7.out hb8)
    have HR58 := Lib.hid (HR57.out.below hb8)
    have q8 := cell_below HB8.out HOL.out
    have hsw2 := swords_any w8 R A6 A5 c6 c5 HR8.out HR58.out (by omega)
    clear hsw hb8 HR7 HR57
    go_wp2_with fail
    refine hsw2.mono ?_
    rintro e w9 ⟨rfl, hb9⟩
    have HB9 := Lib.hid (below_then HB8.out hb9)
    have HR59 := Lib.hid (HR58.out.below hb9)
    have hc9 := HCS.out w9 HB9.out A5 c5 HR59.out
    clear hsw2 hb9 HR8 HR58 q8
    go_wp2_with fail
    refine hc9.mono ?_
    rintro e w10 ⟨rfl, hb10⟩
    have HB10 := Lib.hid (below_then HB9.out hb10)
    have HR510 := Lib.hid (HR59.out.below hb10)
    have hcn := count_any n 4 w10 (by omega) (by omega) hn
    clear hc9 hb10 HR59
    go_wp2_with fail
    refine hcn.mono ?_
    rintro e w11 ⟨k, hk4, rfl, hw11⟩
    subst hw11
    have hwk : IntKind.i64.wrap (1 + (k : Int)) = 1 + (k : Int) := by rw [IntKind.wrap_i64]; omega
    have ht2 := HTD.out w10 HB10.out k hk4
    clear hcn
    go_wp2_with fail
    refine ht2.mono ?_
    rintro e w12 ⟨A7, c7, rfl, hrd7, hb12⟩
    have HR7 := Lib.hid hrd7
    have HB12 := Lib.hid (below_then HB10.out hb12)
    have HR512 := Lib.hid (HR510.out.below hb12)
    clear ht2 hrd7 hb12 HR510
    by_cases hgt : R.length < k + 1
    · have hT : R.take (k + 1) = R := List.take_of_length_le (by omega)
      rw [hT] at HR7 ⊢
      have hgb : decide ((R.length : Int) < 1 + (k : Int)) = true := decide_eq_true (by omega)
      have hi1 : (R.length : Int) ≤ (c5 : Int) := by omega
      have hi0 : (0 : Int) ≤ (R.length : Int) := Int.natCast_nonneg _
      have hsw3 := swords_any w12 R A7 A5 c7 c5 HR7.out HR512.out (by omega)
      clear hT
      go_wp2_with fail
      refine hsw3.mono ?_
      rintro e w13 ⟨rfl, hb13⟩
      have HB13 := Lib.hid (below_then HB4.out (below_then HB12.out hb13))
      have hk := HK.out w13 HB13.out
      clear hsw3 hb13
      go_wp2_with fail
      refine hk.mono ?_
      rintro e w14 ⟨rfl, hb14⟩
      go_wp2
      go_ret
      exact ⟨rfl, below_then HB13.out hb14⟩
    · have hTl : (R.take (k + 1)).length = k + 1 := by rw [List.length_take]; omega
      have HTL := Lib.hid hTl
      have hgb : decide ((R.length : Int) < 1 + (k : Int)) = false := decide_eq_false (by omega)
      have hgb2 : ¬ (R.length : Int) < 1 + (k : Int) := by omega
      have hi1 : 1 + (k : Int) ≤ (c5 : Int) := by omega
      have hi0 : (0 : Int) ≤ 1 + (k : Int) := by omega
      have hto : (1 + (k : Int)).toNat = k + 1 := by omega
      have hsw3 := swords_any w12 (R.take (k + 1)) A7 A5 c7 c5 HR7.out (HR512.out.take (k + 1)) (by omega)
      rw [hTl] at hsw3 ⊢
      clear hTl
      go_wp2_with fail
      refine hsw3.mono ?_
      rintro e w13 ⟨rfl, hb13⟩
      have HB13 := Lib.hid (below_then HB4.out (below_then HB12.out hb13))
      have hk := HK.out w13 HB13.out
      clear hsw3 hb13
      go_wp2_with fail
      refine hk.mono ?_
      rintro e w14 ⟨rfl, hb14⟩
      go_wp2
      go_ret
      exact ⟨rfl, below_then HB13.out hb14⟩
  · have hE : rootE L r = 31 := by unfold rootE; rw [if_neg hall]
    have hX0 : rchX L r = [] := by unfold rchX; rw [if_neg hall]
    have hall2 : allFind L r = false := by simpa using hall
    rw [hall2, hX0] at hlrc
    have htd := fun V (hb : Below w4.heap.size w4 V) => stold_bad V O ba 20000 L r (some ⟨g4, 0, none⟩) c4 0 (HA4.out.below hb) (HOR.out.below hb) HRNG.out (by omega) hall
    have hlv := fun V (hb : Below w4.heap.size w4 V) => slive_any V O ba 20000 L r (some ⟨g4, 0, none⟩) c4 (HA4.out.below hb) (HT.out.below (below_then HB4.out hb)) HCELLS.out (HOR.out.below hb) HRNG.out (by omega)
    simp only [hE, hX0] at hlv
    have HTD := Lib.hid htd
    have HLV := Lib.hid hlv
    clear htd hlv hE hX0 hall hall2 HS
    go_wp2_with fail
    refine hlrc.mono ?_
    rintro e w5 ⟨A5, c5, rfl, hrow5, hb5⟩
    have HB5 := Lib.hid hb5
    have hd1 := HTD.out w5 hb5
    clear hlrc hrow5 hb5
    go_wp2_with fail
    refine hd1.mono ?_
    rintro e w6 ⟨rfl, hb6⟩
    have HB6 := Lib.hid (below_then HB5.out hb6)
    have hl1 : Calls Tryd.prog 48 #[.pointer (some ⟨ba, 0, none⟩), .slice (some ⟨g4, 0, none⟩) r.length c4] w6 fun e w' => e = .returned (.tuple #[.int .i64 0, .int .i64 31]) ∧ Below w6.heap.size w6 w' := HLV.out w6 HB6.out
    clear hd1 hb6
    go_wp2_with fail
    refine hl1.mono ?_
    rintro e w7 ⟨rfl, hb7⟩
    have HB7 := Lib.hid (below_then HB6.out hb7)
    have hsw := swords_any w7 r (some ⟨g4, 0, none⟩) A2 c4 c2 (HOR.out.below HB7.out) (HR4.out.below HB7.out) (by omega)
    clear hl1 hb7
    go_wp2_with fail
    refine hsw.mono ?_
    rintro e w8 ⟨rfl, hb8⟩
    have HB8 := Lib.hid (below_then HB7.out hb8)
    have q8 := cell_below HB8.out HOL.out
    have HB9 := Lib.hid (below_then HB4.out HB8.out)
    have hk := HK.out w8 HB9.out
    clear hsw hb8
    go_wp2_with fail
    refine hk.mono ?_
    rintro e w9 ⟨rfl, hb9⟩
    go_wp2
    go_ret
    exact ⟨rfl, below_then HB9.out hb9⟩
end Go.Proofs.YthgnihckeckaiaaDoor.Tm
