/- The walk of the reference's Sort. -/
import Derived.Test.YtfeaolnklooanaaDoorSrtRf
namespace Go.Proofs.YtfeaolnklooanaaDoor.Tm
open Go.RowKit
set_option linter.unusedVariables false
set_option linter.unusedSimpArgs false

theorem slice_head (g i c k : Nat) (hk : k ≤ c) (W : World) : (Instr.slice 29 (.slice (some ⟨g, 0, none⟩) i c) none (some (.int .i64 (k : Int))) none).run Tryd.prog W = .ok (.slice (some ⟨g, 0, none⟩) k c) W := by
  have h1 : (k : Int) ≤ (c : Int) := by omega
  simp [go_sem, h1]
theorem slice_tail (g i c k : Nat) (hk : k ≤ i) (hc : i ≤ c) : ∃ B, (∀ W : World, (Instr.slice 29 (.slice (some ⟨g, 0, none⟩) i c) (some (.int .i64 (k : Int))) none none).run Tryd.prog W = .ok (.slice B (i - k) (c - k)) W) ∧ (B = some ⟨g, k, none⟩ ∨ (i - k = 0 ∧ B ≠ none)) := by
  have h1 : (k : Int) ≤ (i : Int) := by omega
  have h2 : (i : Int) ≤ (c : Int) := by omega
  have h3 : (0 : Int) ≤ (k : Int) := by omega
  by_cases hck : c = k
  · refine ⟨some ⟨g, 0, none⟩, fun W => ?_, .inr ⟨by omega, by simp⟩⟩
    have : i = k := by omega
    subst this
    subst hck
    simp [go_sem]
  · refine ⟨some ⟨g, k, none⟩, fun W => ?_, .inl rfl⟩
    simp [go_sem, h1, h2, h3, hck]
theorem slice_none_head (i c k : Nat) (hc : c = 0) (hk : k = 0) (W : World) : (Instr.slice 29 (.slice none i c) none (some (.int .i64 (k : Int))) none).run Tryd.prog W = .ok (.slice none k c) W := by
  subst hc
  subst hk
  simp [go_sem]
theorem slice_none_tail (i c k : Nat) (hi : i = 0) (hc : c = 0) (hk : k = 0) (W : World) : (Instr.slice 29 (.slice none i c) (some (.int .i64 (k : Int))) none none).run Tryd.prog W = .ok (.slice none (i - k) (c - k)) W := by
  subst hi
  subst hc
  subst hk
  simp [go_sem]
theorem src_none {w : World} {m : Nat} {news : List Value} (h : news = []) (hm : m = 0) : Src w 1 none m news := by
  subst h
  subst hm
  exact ⟨rfl, fun _ => rfl, fun ad e => (by cases e), fun u hu => absurd hu List.not_mem_nil⟩
theorem Src.row_take {w : World} {base n c g k : Nat} {e : TypeId} {vs : List Value} (h : w.ownsRow base e 1 (.slice (some ⟨g, 0, none⟩) n c) n vs) (hk : k ≤ n) (h1 : ∀ u ∈ vs, u.oneCell' = true) : Src w 1 (some ⟨g, 0, none⟩) k (vs.take k) where
  len := by have := h.1; rw [List.length_take]; omega
  nil := fun e => by cases e
  at_ := fun ad e j u hj => by
    cases e
    have hjk : j < k := by have := (List.getElem?_eq_some_iff.1 hj).1; rw [List.length_take] at this; omega
    rw [List.getElem?_take_of_lt hjk] at hj
    have := row_cell1 h hj
    have e2 : (⟨g, 0, none⟩ : Addr).add j = ⟨g, j, none⟩ := by unfold Addr.add; split <;> simp_all
    rw [e2]; exact this
  one := fun u hu => h1 u (List.mem_of_mem_take hu)
theorem Src.row_drop {w : World} {base n c g k : Nat} {e : TypeId} {vs : List Value} {B : Option Addr} (h : w.ownsRow base e 1 (.slice (some ⟨g, 0, none⟩) n c) n vs) (hk : k ≤ n) (h1 : ∀ u ∈ vs, u.oneCell' = true) (hB : B = some ⟨g, k, none⟩ ∨ (n - k = 0 ∧ B ≠ none)) : Src w 1 B (n - k) (vs.drop k) where
  len := by have := h.1; rw [List.length_drop]; omega
  nil := fun e => by
    rcases hB with q | ⟨q, _⟩
    · rw [e] at q; cases q
    · exact q
  at_ := fun ad e j u hj => by
    have hl := h.1
    have hjk : j < n - k := by have := (List.getElem?_eq_some_iff.1 hj).1; rw [List.length_drop] at this; omega
    rcases hB with q | ⟨q, _⟩
    · rw [e] at q
      injection q with q
      subst q
      rw [List.getElem?_drop] at hj
      have := row_cell1 h hj
      have e2 : (⟨g, k, none⟩ : Addr).add j = ⟨g, k + j, none⟩ := by unfold Addr.add; split <;> simp_all
      rw [e2]; exact this
    · omega
  one := fun u hu => h1 u (List.mem_of_mem_drop hu)
theorem Each.one_ {P : Option Addr → Nat → List CellD → Prop} {vs : List Value} {ls : List (List CellD)} (h : Each P vs ls) : ∀ u ∈ vs, u.oneCell' = true := fun u hu => by
  obtain ⟨j, hj, rfl⟩ := List.mem_iff_getElem.1 hu
  obtain ⟨A, c, e, _⟩ := h.2 j (by rw [← h.1]; exact hj)
  rw [List.getElem?_eq_getElem hj] at e
  injection e with e
  rw [e]; rfl
set_option maxRecDepth 100000 in
set_option maxHeartbeats 8000000 in
theorem rsort_any (ls : List (List CellD)) (A : Option Addr) (c n : Nat) (hlen : ls.length = n) (w : World) (hr : Reads2 w A ls) (hf : Fine2 ls) (hn : n * 24 ≤ 140737488351232) :
    Calls Tryd.prog 32 #[.slice A n c] w fun e w' => (wrongE ls ≠ 0 ∧ e = .returned (.tuple #[.slice none 0 0, .int .i64 (wrongE ls)]) ∨ wrongE ls = 0 ∧ ∃ A' c' rs, e = .returned (.tuple #[.slice A' n c', .int .i64 0]) ∧ rs.length = n ∧ SlsAt w' w.heap.size A' c' rs ∧ rs.Perm ls ∧ Rising rs) ∧ Below w.heap.size w w' := by
  obtain ⟨i0, hi, hz0, hz1, hz2⟩ := info_parts sl_info
  have HR := Lib.hid hr
  have HN := Lib.hid hlen
  have HWA := Lib.hid (rwrong_any ls A c w hr hf (by omega))
  rw [hlen] at HWA
  clear hr hf hlen
  go_enter Tryd.func32, Tryd.ntmps32
  go_wp2_with fail
  refine HWA.out.mono ?_
  rintro e w1 ⟨rfl, hB1⟩
  by_cases hw : wrongE ls ≠ 0
  · have te : (wrongE ls != 0) = true := by rw [bne_iff_ne]; exact hw
    have HW := Lib.hid hw
    clear hw
    go_wp2
    go_ret2
    exact ⟨.inl ⟨HW.out, rfl⟩, hB1⟩
  have hw : wrongE ls = 0 := Decidable.not_not.1 hw
  have te : (wrongE ls != 0) = false := by rw [bne_eq_false_iff_eq]; exact hw
  have HW := Lib.hid hw
  have HRT := Lib.hid (wrong_all hw)
  have HB1 := Lib.hid hB1
  clear hw hB1
  go_wp2
  go_loopw [5, 6] (fun v iv wr => ∃ (i : Nat) (rs : List (List CellD)) (vs : List Value) (A' : Option Addr) (c' : Nat), i ≤ n ∧ iv = .int .i64 i ∧ v = .slice A' i c' ∧ Hid (rs.length = i) ∧ Hid (rs.Perm (ls.take i)) ∧ Hid (Rising rs) ∧ Hid (Each (fun A c l => l.length ≤ c ∧ Reads w A l) vs rs) ∧ Hid (wr.ownsRow w.heap.size 22 1 (.slice A' i c') i vs) ∧ Below w.heap.size w wr) (fun v iv wr => n - (intOf iv).toNat)
  case atStart => exact ⟨0, [], [], none, 0, Nat.zero_le _, rfl, rfl, rfl, List.Perm.refl _, List.Pairwise.nil, Each.nil, row_nil _ _ _ _, HB1.out⟩
  case round =>
    obtain ⟨i, rs, vs, A', c', hin, rfl, rfl, hlr, hpr, hrs, hea, hrow, hB⟩ := hrel
    by_cases hlt : i < n
    · have hk1 : (i : Int) < (n : Int) := by omega
      have hk0 : (0 : Int) ≤ (i : Int) := by omega
      have hil : i < ls.length := by rw [HN.out]; exact hlt
      obtain ⟨g, o, hA, Aj, cj, hcell, hle, hrd⟩ := HR.out i hil
      subst hA
      have hxr := HRT.out _ (List.getElem_mem hil)
      obtain ⟨x, hx⟩ : ∃ p, ls[i] = p := ⟨_, rfl⟩
      rw [hx] at hcell hle hrd hxr
      have hxl := (rightE_ok hxr).2.2
      have HX := Lib.hid hx
      have HXR := Lib.hid hxr
      obtain ⟨nx, hnx⟩ : ∃ m, x.length = m := ⟨_, rfl⟩
      have HLE := Lib.hid hle
      rw [hnx] at hcell hxl
      have HNX := Lib.hid hnx
      have HRD := Lib.hid hrd
      have HCL := Lib.hid hcell
      have HRR := Lib.hid (show ∀ l ∈ rs, (rightE l).1 = 0 from fun l hl => HRT.out l (List.mem_of_mem_take (hpr.out.mem_iff.1 hl)))
      obtain ⟨wo, hwo⟩ : ∃ W, W = wr := ⟨_, rfl⟩
      subst hwo
      have w3 : IntKind.i64.wrap ((i : Int) + 1) = (i : Int) + 1 := by rw [IntKind.wrap_i64]; omega
      clear hcell hle hrd hxr hx hnx
      go_wp2
      go_loopw [7] (fun kv wr => ∃ k : Nat, k ≤ i ∧ kv = .int .i64 k ∧ Hid (∀ j (h : j < rs.length), k ≤ j → 0 < termCmp rs[j] x) ∧ Below wo.heap.size wo wr) (fun kv wr => (intOf kv).toNat)
      case atStart => exact ⟨i, Nat.le_refl _, rfl, fun j h1 h2 => by have := hlr.out; omega, Below.refl _ _⟩
      case round =>
        obtain ⟨k, hki, rfl, hHi, hBk⟩ := hrel
        by_cases hk0' : 0 < k
        · have hk2 : (0 : Int) < (k : Int) := by omega
          have hk2d : decide ((0 : Int) < (k : Int)) = true := decide_eq_true hk2
          have hk1r : k - 1 < rs.length := by rw [hlr.out]; omega
          obtain ⟨g5, rfl, hg5, hg6⟩ := row_form hrow.out (by omega)
          obtain ⟨Ap, cp, hep, hpc, hpp⟩ := hea.out.2 (k - 1) hk1r
          have hcp := row_cell1 (row_below hrow.out hBk) hep
          have hpr1 := HRR.out _ (List.getElem_mem hk1r)
          obtain ⟨p, hp⟩ : ∃ p, rs[k - 1] = p := ⟨_, rfl⟩
          rw [hp] at hcp hpp hpr1
          have hpl := (rightE_ok hpr1).2.2
          obtain ⟨np, hnp⟩ : ∃ m, p.length = m := ⟨_, rfl⟩
          rw [hnp] at hcp hpl
          have HNP := Lib.hid hnp
          have HP := Lib.hid (⟨hk1r, hp⟩ : ∃ h : k - 1 < rs.length, rs[k - 1] = p)
          have HRP := Lib.hid (hpp.below (below_then hB hBk))
          have HRX := Lib.hid (HRD.out.below (below_then hB hBk))
          have q0 := cell_below (below_then hB hBk) HCL.out
          have v1 : IntKind.i64.wrap ((k : Int) - 1) = (k : Int) - 1 := by rw [IntKind.wrap_i64]; omega
          have v2 : (0 : Int) ≤ (k : Int) - 1 := by omega
          have v2' : (1 : Int) ≤ (k : Int) := by omega
          have v3 : (k : Int) - 1 < (i : Int) := by omega
          have v4 : ((k : Int) - 1).toNat = k - 1 := by omega
          clear hep hpc hpp hpr1 hp hnp
          go_wp2_with fail
          go_region_held3 (fun w' => w'.cell? ⟨g5, k - 1, none⟩ = some (.slice Ap np cp) ∧ w'.cell? ⟨g, o + i, none⟩ = some (.slice Aj nx cj))
            (first
              | exact ⟨cell_below hb hcp, cell_below hb q0⟩
              | go_keep)
            ((go_at_call 47; refine (rorder_any p x _ _ HNP.out HNX.out Ap Aj cp cj _ (HRP.out.below ((Below.refl _ _).drew)) (HRX.out.below ((Below.refl _ _).drew)) (by omega) (by omega)).mono ?_; rintro e wd ⟨rfl, hb⟩))
          have hBd := below_then hBk (((Below.refl _ wr).drew).trans hb)
          generalize hcb : decide (0 < termCmp p x) = cb
          cases cb with
          | true =>
            have HH := Lib.hid (show ∀ j (h : j < rs.length), k - 1 ≤ j → 0 < termCmp rs[j] x from fun j h1 h2 => by
              rcases Nat.lt_or_ge j k with q | q
              · have e : rs[j] = p := by obtain ⟨h9, e9⟩ := HP.out; rw [← e9]; congr 1; omega
                rw [e]; exact of_decide_eq_true hcb
              · exact hHi.out j h1 q)
            clear hb hcp q0 hcb hBk
            go_wp2_with fail
            go_roundw
            case rel => exact ⟨k - 1, by omega, by go_num, HH, hBd⟩
            case measure => simp [intOf]; omega
          | false =>
            have HLO := Lib.hid (show k = 0 ∨ ∃ h : k - 1 < rs.length, termCmp rs[k - 1] x ≤ 0 by
              obtain ⟨h9, e9⟩ := HP.out
              have := of_decide_eq_false hcb
              exact .inr ⟨h9, by rw [e9]; omega⟩)
            -- FALSE ARM
            clear hb hcp q0 hcb hBk
            have hcapi := row_cap hrow.out
            have hbx : Below wo.heap.size wo wd := hBd
            have HBX := Lib.hid hbx
            have hs1 := slice_head g5 i c' k (by omega)
            obtain ⟨B, hs2, hBB⟩ := slice_tail g5 i c' k hki hcapi
            have HROW := Lib.hid (row_below hrow.out hbx)
            have HONE := Lib.hid (hea.out.one_)
            have hqx := cell_below (below_then hB hbx) HCL.out
            have HLK := Lib.hid (show k ≤ rs.length by rw [hlr.out]; exact hki)
            have HVL := Lib.hid (hea.out.1)
            have HHI := Lib.hid hHi.out
            have HB0 := Lib.hid hB
            obtain ⟨sz, hsz⟩ : ∃ q, wd.heap.size = q := ⟨_, rfl⟩
            have HSZ := Lib.hid hsz
            have hszw : w.heap.size ≤ sz := by have h1 := hB.size; have h2 := hbx.size; omega
            clear hbx hHi hsz hB
            go_wp2_with (at_builtin; refine wpList_app _ rfl (.tmp 39) (.tmp 42) _ rfl sz _ i0 _ 1 24 Tryd.underlying29 hi hz0 hz1 hz2 rfl ?a1 (.slice none 0 0) 0 [] rfl ?a2 (some ⟨g5, 0, none⟩) k c' (vs.take k) rfl ?a3 ?a4 ?a5 ?a6 ?a7)
            case a1 => omega
            case a2 => exact row_nil _ _ _ _
            case a3 => exact Src.row_take HROW.out hki HONE.out
            case a4 => simp only [maxLen]; omega
            case a5 => omega
            case a6 => have := HSZ.out; have h2 : wd.heap.size = wd.heap.size := rfl; omega
            case a7 =>
              intro v2 wA hownA hgA hatA
              obtain ⟨A2, c2, rfl⟩ := row_slice hownA
              try rw [Nat.zero_add] at hownA
              try rw [List.nil_append] at hownA
              have HBA := Lib.hid (show Below sz wd wA from by rw [← HSZ.out]; exact (Below.refl wd.heap.size wd).grown hgA (Nat.le_refl _) (fun q hq => by simp [Value.ownBlock] at hq))
              have HOA := Lib.hid hownA
              have hqx2 := cell_below (HSZ.out ▸ HBA.out) hqx
              have hzA := HBA.out.size
              have hcc : (wA.alloc (.cells #[.slice Aj nx cj] 22)).cell? ⟨wA.heap.size, 0, none⟩ = some (.slice Aj nx cj) := by go_cell
              have hszA : sz ≤ wA.heap.size := by have := HSZ.out; omega
              clear hownA hgA hatA hqx
              go_wp2_with (at_builtin; refine wpList_app _ rfl (.tmp 44) (.tmp 49) _ rfl sz _ i0 _ 1 24 Tryd.underlying29 hi hz0 hz1 hz2 rfl ?b1 (.slice A2 k c2) k (vs.take k) (by simp [Act.eval, Act.put]) ?b2 (some ⟨wA.heap.size, 0, none⟩) 1 1 [.slice Aj nx cj] rfl ?b3 ?b4 ?b5 ?b6 ?b7)
              case b1 => omega
              case b2 => exact HOA.out.alloc _
              case b3 => exact Src.slice1 hcc rfl
              case b4 => simp only [maxLen]; omega
              case b5 => omega
              case b6 => rw [World.size_alloc]; omega
              case b7 =>
                intro v3 wB hownB hgB hatB
                obtain ⟨A3, c3, rfl⟩ := row_slice hownB
                have HOB := Lib.hid hownB
                have HBB := Lib.hid (show Below sz wd wB from (HBA.out.alloc hszA _).grown hgB (by rw [World.size_alloc]; omega) (fun q hq => row_base HOA.out q hq))
                have HROWB := Lib.hid (row_below HROW.out (HSZ.out ▸ HBB.out))
                have hszB : sz ≤ wB.heap.size := by have := HSZ.out; have h1 := HBB.out.size; omega
                clear hownB hgB hatB hcc hqx2
                go_wp2_with (at_builtin; refine wpList_app _ rfl (.tmp 51) (.tmp 54) _ rfl sz _ i0 _ 1 24 Tryd.underlying29 hi hz0 hz1 hz2 rfl ?d1 (.slice A3 (k + 1) c3) (k + 1) (vs.take k ++ [.slice Aj nx cj]) rfl ?d2 B (i - k) (c' - k) (vs.drop k) rfl ?d3 ?d4 ?d5 ?d6 ?d7)
                case d1 => omega
                case d2 => exact HOB.out
                case d3 => exact Src.row_drop HROWB.out hki HONE.out hBB
                case d4 => simp only [maxLen]; omega
                case d5 => omega
                case d6 => exact hszB
                case d7 =>
                  intro v4 wC hownC hgC hatC
                  obtain ⟨A4, c4, rfl⟩ := row_slice hownC
                  have HBC := Lib.hid (show Below sz wd wC from HBB.out.grown hgC hszB (fun q hq => row_base HOB.out q hq))
                  have HBCw := Lib.hid (below_then (below_then HB0.out HBX.out) (HSZ.out ▸ HBC.out))
                  have hlen4 : k + 1 + (i - k) = i + 1 := by omega
                  rw [hlen4] at hownC
                  have HRC := Lib.hid (show wC.ownsRow w.heap.size 22 1 (.slice A4 (i + 1) c4) (i + 1) (vs.take k ++ [.slice Aj nx cj] ++ vs.drop k) by rw [List.append_assoc]; exact row_mono hownC hszw)
                  have HEC := Lib.hid (show Each (fun A c l => l.length ≤ c ∧ Reads w A l) (vs.take k ++ [.slice Aj nx cj] ++ vs.drop k) (rs.take k ++ [x] ++ rs.drop k) by
                    rw [← HNX.out]
                    exact each_ins hea.out ⟨HLE.out, HRD.out⟩ HLK.out)
                  have HRSC := Lib.hid (ins_rising hrs.out HRR.out HXR.out HLK.out HHI.out HLO.out)
                  have HPC := Lib.hid (ins_perm (k := k) hpr.out hil HX.out)
                  have HLC := Lib.hid (show (rs.take k ++ [x] ++ rs.drop k).length = i + 1 by have := hlr.out; simp; omega)
                  clear hownC hgC hatC hlen4
                  go_wp2
                  go_roundw
                  case rel => exact ⟨i + 1, _, _, A4, c4, by omega, by go_num, by first | rfl | (congr 1; omega), HLC, HPC, HRSC, HEC, HRC, HBCw.out⟩
                  case measure => simp [intOf]; omega
        · have hk2 : ¬ (0 : Int) < (k : Int) := by omega
          have hk2d : decide ((0 : Int) < (k : Int)) = false := decide_eq_false hk2
          have hke := Lib.hid (show k = 0 by omega)
          have HLO := Lib.hid (.inl hke.out : k = 0 ∨ ∃ h : k - 1 < rs.length, termCmp rs[k - 1] x ≤ 0)
          go_wp2_with fail
          go_quiet (fail)
          obtain ⟨wd, hwd⟩ : ∃ W, wr.drewN nq = W := ⟨_, rfl⟩
          have hBd : Below wo.heap.size wo wd := hwd ▸ ⟨hBk.os, hBk.tape, hBk.output, hBk.size, hBk.block⟩
          rw [hwd]
          clear hwd hBk
          cases A' with
          | some ad =>
            obtain ⟨g5, rfl⟩ : ∃ g5, ad = ⟨g5, 0, none⟩ := by
              rcases hrow.out.2 with ⟨e, _⟩ | ⟨g', cap, cur, hv, _⟩
              · injection e with e; cases e
              · injection hv with hv; injection hv with hv; exact ⟨g', hv⟩
            have hcapi := row_cap hrow.out
            have hbx : Below wo.heap.size wo wd := hBd
            have HBX := Lib.hid hbx
            have hs1 := slice_head g5 i c' k (by omega)
            obtain ⟨B, hs2, hBB⟩ := slice_tail g5 i c' k hki hcapi
            have HROW := Lib.hid (row_below hrow.out hbx)
            have HONE := Lib.hid (hea.out.one_)
            have hqx := cell_below (below_then hB hbx) HCL.out
            have HLK := Lib.hid (show k ≤ rs.length by rw [hlr.out]; exact hki)
            have HVL := Lib.hid (hea.out.1)
            have HHI := Lib.hid hHi.out
            have HB0 := Lib.hid hB
            obtain ⟨sz, hsz⟩ : ∃ q, wd.heap.size = q := ⟨_, rfl⟩
            have HSZ := Lib.hid hsz
            have hszw : w.heap.size ≤ sz := by have h1 := hB.size; have h2 := hbx.size; omega
            clear hbx hHi hsz hB
            go_wp2_with (at_builtin; refine wpList_app _ rfl (.tmp 39) (.tmp 42) _ rfl sz _ i0 _ 1 24 Tryd.underlying29 hi hz0 hz1 hz2 rfl ?a1 (.slice none 0 0) 0 [] rfl ?a2 (some ⟨g5, 0, none⟩) k c' (vs.take k) rfl ?a3 ?a4 ?a5 ?a6 ?a7)
            case a1 => omega
            case a2 => exact row_nil _ _ _ _
            case a3 => exact Src.row_take HROW.out hki HONE.out
            case a4 => simp only [maxLen]; omega
            case a5 => omega
            case a6 => have := HSZ.out; have h2 : wd.heap.size = wd.heap.size := rfl; omega
            case a7 =>
              intro v2 wA hownA hgA hatA
              obtain ⟨A2, c2, rfl⟩ := row_slice hownA
              try rw [Nat.zero_add] at hownA
              try rw [List.nil_append] at hownA
              have HBA := Lib.hid (show Below sz wd wA from by rw [← HSZ.out]; exact (Below.refl wd.heap.size wd).grown hgA (Nat.le_refl _) (fun q hq => by simp [Value.ownBlock] at hq))
              have HOA := Lib.hid hownA
              have hqx2 := cell_below (HSZ.out ▸ HBA.out) hqx
              have hzA := HBA.out.size
              have hcc : (wA.alloc (.cells #[.slice Aj nx cj] 22)).cell? ⟨wA.heap.size, 0, none⟩ = some (.slice Aj nx cj) := by go_cell
              have hszA : sz ≤ wA.heap.size := by have := HSZ.out; omega
              clear hownA hgA hatA hqx
              go_wp2_with (at_builtin; refine wpList_app _ rfl (.tmp 44) (.tmp 49) _ rfl sz _ i0 _ 1 24 Tryd.underlying29 hi hz0 hz1 hz2 rfl ?b1 (.slice A2 k c2) k (vs.take k) (by simp [Act.eval, Act.put]) ?b2 (some ⟨wA.heap.size, 0, none⟩) 1 1 [.slice Aj nx cj] rfl ?b3 ?b4 ?b5 ?b6 ?b7)
              case b1 => omega
              case b2 => exact HOA.out.alloc _
              case b3 => exact Src.slice1 hcc rfl
              case b4 => simp only [maxLen]; omega
              case b5 => omega
              case b6 => rw [World.size_alloc]; omega
              case b7 =>
                intro v3 wB hownB hgB hatB
                obtain ⟨A3, c3, rfl⟩ := row_slice hownB
                have HOB := Lib.hid hownB
                have HBB := Lib.hid (show Below sz wd wB from (HBA.out.alloc hszA _).grown hgB (by rw [World.size_alloc]; omega) (fun q hq => row_base HOA.out q hq))
                have HROWB := Lib.hid (row_below HROW.out (HSZ.out ▸ HBB.out))
                have hszB : sz ≤ wB.heap.size := by have := HSZ.out; have h1 := HBB.out.size; omega
                clear hownB hgB hatB hcc hqx2
                go_wp2_with (at_builtin; refine wpList_app _ rfl (.tmp 51) (.tmp 54) _ rfl sz _ i0 _ 1 24 Tryd.underlying29 hi hz0 hz1 hz2 rfl ?d1 (.slice A3 (k + 1) c3) (k + 1) (vs.take k ++ [.slice Aj nx cj]) rfl ?d2 B (i - k) (c' - k) (vs.drop k) rfl ?d3 ?d4 ?d5 ?d6 ?d7)
                case d1 => omega
                case d2 => exact HOB.out
                case d3 => exact Src.row_drop HROWB.out hki HONE.out hBB
                case d4 => simp only [maxLen]; omega
                case d5 => omega
                case d6 => exact hszB
                case d7 =>
                  intro v4 wC hownC hgC hatC
                  obtain ⟨A4, c4, rfl⟩ := row_slice hownC
                  have HBC := Lib.hid (show Below sz wd wC from HBB.out.grown hgC hszB (fun q hq => row_base HOB.out q hq))
                  have HBCw := Lib.hid (below_then (below_then HB0.out HBX.out) (HSZ.out ▸ HBC.out))
                  have hlen4 : k + 1 + (i - k) = i + 1 := by omega
                  rw [hlen4] at hownC
                  have HRC := Lib.hid (show wC.ownsRow w.heap.size 22 1 (.slice A4 (i + 1) c4) (i + 1) (vs.take k ++ [.slice Aj nx cj] ++ vs.drop k) by rw [List.append_assoc]; exact row_mono hownC hszw)
                  have HEC := Lib.hid (show Each (fun A c l => l.length ≤ c ∧ Reads w A l) (vs.take k ++ [.slice Aj nx cj] ++ vs.drop k) (rs.take k ++ [x] ++ rs.drop k) by
                    rw [← HNX.out]
                    exact each_ins hea.out ⟨HLE.out, HRD.out⟩ HLK.out)
                  have HRSC := Lib.hid (ins_rising hrs.out HRR.out HXR.out HLK.out HHI.out HLO.out)
                  have HPC := Lib.hid (ins_perm (k := k) hpr.out hil HX.out)
                  have HLC := Lib.hid (show (rs.take k ++ [x] ++ rs.drop k).length = i + 1 by have := hlr.out; simp; omega)
                  clear hownC hgC hatC hlen4
                  go_wp2
                  go_roundw
                  case rel => exact ⟨i + 1, _, _, A4, c4, by omega, by go_num, by first | rfl | (congr 1; omega), HLC, HPC, HRSC, HEC, HRC, HBCw.out⟩
                  case measure => simp [intOf]; omega
          | none =>
            have hi0' : i = 0 ∧ c' = 0 := by
              rcases hrow.out.2 with ⟨e, e2⟩ | ⟨g', cap, cur, hv, _⟩
              · injection e with e e3 e4; exact ⟨e2, e4⟩
              · injection hv with hv; cases hv
            have hi0 := Lib.hid hi0'.1
            have hc0 := Lib.hid hi0'.2
            have hvn := Lib.hid (show vs = [] from List.eq_nil_of_length_eq_zero (by have := hrow.out.1; have := hi0'.1; omega))
            clear hi0'
            have hcapi := row_cap hrow.out
            have hbx : Below wo.heap.size wo wd := hBd
            have HBX := Lib.hid hbx
            have hs1 := slice_none_head i c' k hc0.out hke.out
            have hs2 := slice_none_tail i c' k hi0.out hc0.out hke.out
            have HROW := Lib.hid (row_below hrow.out hbx)
            have HONE := Lib.hid (hea.out.one_)
            have hqx := cell_below (below_then hB hbx) HCL.out
            have HLK := Lib.hid (show k ≤ rs.length by rw [hlr.out]; exact hki)
            have HVL := Lib.hid (hea.out.1)
            have HHI := Lib.hid hHi.out
            have HB0 := Lib.hid hB
            obtain ⟨sz, hsz⟩ : ∃ q, wd.heap.size = q := ⟨_, rfl⟩
            have HSZ := Lib.hid hsz
            have hszw : w.heap.size ≤ sz := by have h1 := hB.size; have h2 := hbx.size; omega
            clear hbx hHi hsz hB
            go_wp2_with (at_builtin; refine wpList_app _ rfl (.tmp 39) (.tmp 42) _ rfl sz _ i0 _ 1 24 Tryd.underlying29 hi hz0 hz1 hz2 rfl ?a1 (.slice none 0 0) 0 [] rfl ?a2 none k c' (vs.take k) rfl ?a3 ?a4 ?a5 ?a6 ?a7)
            case a1 => omega
            case a2 => exact row_nil _ _ _ _
            case a3 => exact src_none (by have h := hke.out; have h2 := hvn.out; rw [h2]; simp) hke.out
            case a4 => simp only [maxLen]; omega
            case a5 => omega
            case a6 => have := HSZ.out; have h2 : wd.heap.size = wd.heap.size := rfl; omega
            case a7 =>
              intro v2 wA hownA hgA hatA
              obtain ⟨A2, c2, rfl⟩ := row_slice hownA
              try rw [Nat.zero_add] at hownA
              try rw [List.nil_append] at hownA
              have HBA := Lib.hid (show Below sz wd wA from by rw [← HSZ.out]; exact (Below.refl wd.heap.size wd).grown hgA (Nat.le_refl _) (fun q hq => by simp [Value.ownBlock] at hq))
              have HOA := Lib.hid hownA
              have hqx2 := cell_below (HSZ.out ▸ HBA.out) hqx
              have hzA := HBA.out.size
              have hcc : (wA.alloc (.cells #[.slice Aj nx cj] 22)).cell? ⟨wA.heap.size, 0, none⟩ = some (.slice Aj nx cj) := by go_cell
              have hszA : sz ≤ wA.heap.size := by have := HSZ.out; omega
              clear hownA hgA hatA hqx
              go_wp2_with (at_builtin; refine wpList_app _ rfl (.tmp 44) (.tmp 49) _ rfl sz _ i0 _ 1 24 Tryd.underlying29 hi hz0 hz1 hz2 rfl ?b1 (.slice A2 k c2) k (vs.take k) (by simp [Act.eval, Act.put]) ?b2 (some ⟨wA.heap.size, 0, none⟩) 1 1 [.slice Aj nx cj] rfl ?b3 ?b4 ?b5 ?b6 ?b7)
              case b1 => omega
              case b2 => exact HOA.out.alloc _
              case b3 => exact Src.slice1 hcc rfl
              case b4 => simp only [maxLen]; omega
              case b5 => omega
              case b6 => rw [World.size_alloc]; omega
              case b7 =>
                intro v3 wB hownB hgB hatB
                obtain ⟨A3, c3, rfl⟩ := row_slice hownB
                have HOB := Lib.hid hownB
                have HBB := Lib.hid (show Below sz wd wB from (HBA.out.alloc hszA _).grown hgB (by rw [World.size_alloc]; omega) (fun q hq => row_base HOA.out q hq))
                have HROWB := Lib.hid (row_below HROW.out (HSZ.out ▸ HBB.out))
                have hszB : sz ≤ wB.heap.size := by have := HSZ.out; have h1 := HBB.out.size; omega
                clear hownB hgB hatB hcc hqx2
                go_wp2_with (at_builtin; refine wpList_app _ rfl (.tmp 51) (.tmp 54) _ rfl sz _ i0 _ 1 24 Tryd.underlying29 hi hz0 hz1 hz2 rfl ?d1 (.slice A3 (k + 1) c3) (k + 1) (vs.take k ++ [.slice Aj nx cj]) rfl ?d2 none (i - k) (c' - k) (vs.drop k) rfl ?d3 ?d4 ?d5 ?d6 ?d7)
                case d1 => omega
                case d2 => exact HOB.out
                case d3 => exact src_none (by have h2 := hvn.out; rw [h2]; simp) (by have := hi0.out; omega)
                case d4 => simp only [maxLen]; omega
                case d5 => omega
                case d6 => exact hszB
                case d7 =>
                  intro v4 wC hownC hgC hatC
                  obtain ⟨A4, c4, rfl⟩ := row_slice hownC
                  have HBC := Lib.hid (show Below sz wd wC from HBB.out.grown hgC hszB (fun q hq => row_base HOB.out q hq))
                  have HBCw := Lib.hid (below_then (below_then HB0.out HBX.out) (HSZ.out ▸ HBC.out))
                  have hlen4 : k + 1 + (i - k) = i + 1 := by omega
                  rw [hlen4] at hownC
                  have HRC := Lib.hid (show wC.ownsRow w.heap.size 22 1 (.slice A4 (i + 1) c4) (i + 1) (vs.take k ++ [.slice Aj nx cj] ++ vs.drop k) by rw [List.append_assoc]; exact row_mono hownC hszw)
                  have HEC := Lib.hid (show Each (fun A c l => l.length ≤ c ∧ Reads w A l) (vs.take k ++ [.slice Aj nx cj] ++ vs.drop k) (rs.take k ++ [x] ++ rs.drop k) by
                    rw [← HNX.out]
                    exact each_ins hea.out ⟨HLE.out, HRD.out⟩ HLK.out)
                  have HRSC := Lib.hid (ins_rising hrs.out HRR.out HXR.out HLK.out HHI.out HLO.out)
                  have HPC := Lib.hid (ins_perm (k := k) hpr.out hil HX.out)
                  have HLC := Lib.hid (show (rs.take k ++ [x] ++ rs.drop k).length = i + 1 by have := hlr.out; simp; omega)
                  clear hownC hgC hatC hlen4
                  go_wp2
                  go_roundw
                  case rel => exact ⟨i + 1, _, _, A4, c4, by omega, by go_num, by first | rfl | (congr 1; omega), HLC, HPC, HRSC, HEC, HRC, HBCw.out⟩
                  case measure => simp [intOf]; omega
    · have hk1 : ¬ (i : Int) < (n : Int) := by omega
      obtain rfl : i = n := by omega
      have HEND := Lib.hid (show SlsAt wr w.heap.size A' c' rs from by
        have hl := hlr.out
        refine ⟨vs, ?_, hea.out.mono fun _ _ _ p => ⟨p.1, p.2.below hB⟩⟩
        rw [hl]; exact hrow.out)
      have HPE := Lib.hid (show rs.Perm ls by have := hpr.out; rwa [List.take_of_length_le (by rw [HN.out]; exact Nat.le_refl _)] at this)
      go_wp2
      go_ret2
      first
        | exact ⟨.inr ⟨HW.out, A', c', rs, rfl, hlr.out, HEND.out, HPE.out, hrs.out⟩, hB⟩
        | exact ⟨⟨HW.out, A', c', rfl, rs, hlr.out, HEND.out, HPE.out, hrs.out⟩, hB⟩
end Go.Proofs.YtfeaolnklooanaaDoor.Tm
