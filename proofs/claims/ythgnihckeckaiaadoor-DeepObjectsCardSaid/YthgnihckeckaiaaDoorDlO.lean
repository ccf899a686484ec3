/- DeepObjects: the walk. -/
import Derived.Test.YthgnihckeckaiaaDoorDlN
import Derived.Test.YthgnihckeckaiaaDoorDpL
import Derived.Test.YthgnihckeckaiaaDoorDpS
namespace Go.Proofs.YthgnihckeckaiaaDoor.Tm
open Go.RowKit
set_option linter.unusedVariables false
set_option linter.unusedSimpArgs false

set_option maxRecDepth 10000 in
set_option maxHeartbeats 8000000 in
theorem deepObjects_row (A : Option Addr) (cap : Nat) (ops : List Op4) (n x : Int) (w : World) (hT : TabsA w) (hcap : ops.length ≤ cap) (hr : Script4 w A ops) (hk : ∀ op ∈ ops, Op4Ok op) (hl : ops.length ≤ 1000000000000000) (wn : (Lit.int .i64 n).wf = true) (wx : (Lit.int .u64 x).wf = true) :
    Calls Tryd.prog 5 #[.slice A ops.length cap, .int .i64 n, .int .u64 x] w fun e w' => e = .returned (.bool true) ∧ Below w.heap.size w w' := by
  have hmk := made4_any w 4000 ops A cap hT hr hk hl hcap (by omega)
  have HT := Lib.hid hT
  have hxr := wf_word wx
  have hnr := wf_num wn
  clear hT hr hk wx wn
  go_enter Tryd.func5, Tryd.ntmps5
  go_wp2_with fail
  refine hmk.mono ?_
  rintro e w1 ⟨ba, O, L, l, A1, c1, rfl, hM⟩
  have HM := Lib.hid hM
  have hll := hM.len
  have hwf := hM.ar.wf
  have hlims := hM.ar.lims
  have hlen := hwf.len
  have HWF := Lib.hid hwf
  have hpk := pick_any w1 l A1 c1 n hM.rd (by omega) hnr
  clear hmk hM hwf
  go_wp2_with fail
  refine hpk.mono ?_
  rintro e w2 ⟨y, rfl, hy, hw⟩
  subst hw
  have hyo := pick_ok HM.out.ok hy
  have hB0 := below_one w2 (.cells #[.int .u64 y, .int .u64 x] 27)
  obtain ⟨zs, hzs⟩ : ∃ zs, [y, x] = zs := ⟨_, rfl⟩
  have hz2 : zs.length = 2 := by rw [← hzs]; rfl
  have hWZ : WReads (w2.alloc (.cells #[.int .u64 y, .int .u64 x] 27)) (some ⟨w2.heap.size, 0, none⟩) zs := by
    rw [← hzs]
    exact two_words2 (heap_new w2 _)
  have hzr : ∀ z ∈ zs, 0 ≤ z ∧ z < 18446744073709551616 := by
    intro z hz
    rw [← hzs] at hz
    simp at hz
    rcases hz with rfl | rfl
    · exact hyo.2
    · exact hxr
  have HWZ := Lib.hid hWZ
  have HZR := Lib.hid hzr
  have HZ2 := Lib.hid hz2
  have HB0 := Lib.hid hB0
  clear hpk hy hyo hWZ hzr hzs hz2 hB0
  go_wp2_with fail
  go_loopw [26] (fun i wr => ∃ j : Nat, j ≤ 2 ∧ i = .int .i64 (j : Int) ∧ Hid (Below (w2.alloc (.cells #[.int .u64 y, .int .u64 x] 27)).heap.size (w2.alloc (.cells #[.int .u64 y, .int .u64 x] 27)) wr)) (fun i wr => 2 - (intOf i).toNat)
  case atStart => exact ⟨0, by omega, rfl, Lib.hid (Below.refl _ _)⟩
  case round =>
    obtain ⟨j, hj, rfl, hB⟩ := hrel
    have HBM := Lib.hid (below_then HB0.out hB.out)
    have HBW := Lib.hid (below_then HM.out.base HBM.out)
    by_cases hlt : j < 2
    · have hjz : j < zs.length := by rw [HZ2.out]; exact hlt
      obtain ⟨g, o, hAe, q0⟩ := HWZ.out.below hB.out j hjz
      cases hAe
      rw [Nat.zero_add] at q0
      have hzr := HZR.out zs[j] (List.getElem_mem hjz)
      obtain ⟨z, hz⟩ : ∃ z, zs[j] = z := ⟨_, rfl⟩
      rw [hz] at q0 hzr
      have HAr := Lib.hid (HM.out.ar.below HBM.out)
      have hce := acell_any wr O ba 4000 L z hzr.1 hzr.2 HAr.out
      have hse := seen_is (L := L) z
      obtain ⟨cc, hcc⟩ : ∃ c, cellS (seenA L z) = c := ⟨_, rfl⟩
      have heb : (errS (seenA L z) == 0) = (findA L z).isSome := by
        rw [← hse]
        cases hs : seenA L z with
        | none => rfl
        | some r => rfl
      obtain ⟨er, her⟩ : ∃ er, errS (seenA L z) = er := ⟨_, rfl⟩
      rw [hcc, her] at hce
      rw [her] at heb
      simp only [CellD.agg] at hce
      have hj1 : (j : Int) < 2 := by omega
      have hj0 : (0 : Int) ≤ (j : Int) := Int.natCast_nonneg _
      have hbl : decide ((j : Int) < 2) = true := decide_eq_true hj1
      have hol := objsOf_len HWF.out z hzr
      obtain ⟨ws, hws⟩ : ∃ ws, objsOf L z = ws := ⟨_, rfl⟩
      have HWS := Lib.hid hws
      rw [hws] at hol
      clear hz hse hcc her hws
      go_wp2_with fail
      refine hce.mono ?_
      rintro e w3 ⟨rfl, hb3⟩
      have HB3 := Lib.hid (below_alloc' hb3 (.cells #[.int .i64 cc.kind, .int .i64 cc.n, .string cc.text] 40))
      obtain ⟨w4, hw4⟩ : ∃ W, w3.alloc (.cells #[.int .i64 cc.kind, .int .i64 cc.n, .string cc.text] 40) = W := ⟨_, rfl⟩
      have HW4 := Lib.hid hw4
      rw [hw4] at HB3
      clear hce hb3 q0 hw4
      go_upto_if 37 with (fail)
      rw [HW4.out]
      go_cut [11] (fun s11 wx => ∃ Aw cw, s11 = .slice Aw ws.length cw ∧ Hid (WReads wx Aw ws) ∧ Hid (Below w4.heap.size w4 wx))
      case first =>
        cases hf : (findA L z).isSome with
        | true =>
          rw [hf] at heb
          have hrec := objects_any HWF.out O ba 4000 w4.heap.size (by omega) (L.length + 1) z [] (.slice none 0 0) w4 (by have := rkW_le L z; omega) ⟨hf, hzr.1, hzr.2⟩ ⟨List.nodup_nil, fun x hx => (by cases hx)⟩ (HAr.out.below HB3.out) (fun k hk => by simp [Value.ownBlock] at hk) (row_nil _ _ _ _) (Nat.le_refl _)
          have hoe : visW L [] z = ws := by rw [← HWS.out]; unfold objsOf; rw [if_pos hf]
          rw [hoe] at hrec
          clear hf hoe
          go_wp2_with fail
          refine hrec.mono ?_
          rintro e w5 ⟨v5, rfl, hS5⟩
          obtain ⟨A5, c5, hv5⟩ := row_slice hS5.row
          subst hv5
          have HS5 := Lib.hid hS5
          clear hrec hS5
          go_wp2
          go_meet
          exact ⟨A5, c5, rfl, Lib.hid (WReads.of_row HS5.out.row), Lib.hid (HS5.out.fr.below (Nat.le_refl _) (fun k hk => by simp [Value.ownBlock] at hk))⟩
        | false =>
          rw [hf] at heb
          have hoe : ws = [] := by rw [← HWS.out]; unfold objsOf; rw [hf]; rfl
          subst hoe
          clear hf
          go_wp2
          go_meet
          exact ⟨none, 0, rfl, Lib.hid (WReads.nil _ _), Lib.hid (Below.refl _ _)⟩
      case rest =>
        obtain ⟨Aw, cw, rfl, hWW, hBw⟩ := hcut
        have HBC := Lib.hid (below_then HB3.out hBw.out)
        have ht0 := told_any wc O ba 4000 L z 0 (HAr.out.below HBC.out) hzr (by omega)
        rw [HWS.out] at ht0
        obtain ⟨m1, hm1⟩ : ∃ m, (ws.take (0 + 1)).length = m := ⟨_, rfl⟩
        have HM1 := Lib.hid hm1
        have ht0' := ht0.mono (R' := fun e V => ∃ A c, e = .returned (.slice A m1 c) ∧ WReads V A (ws.take (0 + 1)) ∧ Below wc.heap.size wc V) (by rintro e V ⟨A, c, rfl, hrow, hb⟩; exact ⟨A, c, by rw [hm1], WReads.of_row hrow, hb⟩)
        clear heb hBw ht0 hm1
        go_wp2_with fail
        refine ht0'.mono ?_
        rintro e w5 ⟨A5, c5, rfl, hrow5, hb5⟩
        have HR5 := Lib.hid hrow5
        have HWW5 := Lib.hid (hWW.out.below hb5)
        have HB5 := Lib.hid (below_then HBC.out hb5)
        have ht1 := fun W (hb : Below w5.heap.size w5 W) => told_any W O ba 4000 L z ws.length (HAr.out.below (below_then HB5.out hb)) hzr (by omega)
        rw [HWS.out, List.take_of_length_le (show ws.length ≤ ws.length + 1 by omega)] at ht1
        have HT1 := Lib.hid ht1
        clear ht0' hrow5 hb5 ht1
        go_upto_region 10 with (fail)
        go_cut [70] (fun s70 wx => s70 = .bool false ∧ Below w5.heap.size w5 wx)
        case first =>
          rcases Nat.eq_zero_or_pos ws.length with h0 | hpos
          · have hnil := List.eq_nil_of_length_eq_zero h0
            subst hnil
            have hm0 : m1 = 0 := by rw [← HM1.out]; rfl
            subst hm0
            have g0 : decide ((0 : Int) < ((([] : List Int).length : Nat) : Int)) = false := rfl
            clear h0
            refine wp_region_held_drew (S := fun W' => Below w5.heap.size w5 W') (by kernel_rfl) (Below.refl _ _).drew (fun hHeld => ?_)
            refine wpAnyH_take (i := 0) (oi := { dst := some 44, op := Op.move (Operand.tmp 11), type := 31, pos := "law.go:245", after := #[], guard := none }) (v := .slice Aw 0 cw) rfl (by kernel_rfl) (by kernel_rfl) (by kernel_rfl) (fun _ _ _ h => h) (Or.inl ⟨by rfl, ?_⟩) (by assumption) ?_
            · intro w hSw; (try dsimp only at hSw); go_simp
            simp only [Act.put, List.setIfInBounds_toArray, List.set_cons_zero, List.set_cons_succ]
            refine wpAnyH_take (i := 1) (oi := { dst := some 45, op := Op.call { callee := Callee.builtin Builtin.len, args := #[Operand.tmp 44], argTypes := #[31] }, type := 3, pos := "law.go:245", after := #[{ on := 0, ground := Ground.data }], guard := none }) (v := .int .i64 0) rfl (by kernel_rfl) (by kernel_rfl) (by kernel_rfl) (fun _ _ _ h => h) (Or.inl ⟨by rfl, ?_⟩) (by assumption) ?_
            · intro w hSw; (try dsimp only at hSw); go_simp
            simp only [Act.put, List.setIfInBounds_toArray, List.set_cons_zero, List.set_cons_succ]
            refine wpAnyH_take (i := 2) (oi := { dst := some 46, op := Op.binOp BinOp.gtr 3 (Operand.tmp 45) (Operand.const (Value.int IntKind.i64 0)) 3, type := 4, pos := "law.go:245", after := #[{ on := 1, ground := Ground.data }], guard := none }) (v := .bool false) rfl (by kernel_rfl) (by kernel_rfl) (by kernel_rfl) (fun _ _ _ h => h) (Or.inl ⟨by rfl, ?_⟩) (by assumption) ?_
            · intro w hSw; (try dsimp only at hSw); go_simp <;> simp
            simp only [Act.put, List.setIfInBounds_toArray, List.set_cons_zero, List.set_cons_succ]
            refine wpAnyH_take (i := 3) (oi := { dst := some 47, op := Op.move (Operand.tmp 46), type := 4, pos := "law.go:245", after := #[{ on := 2, ground := Ground.data }], guard := none }) (v := .bool false) rfl (by kernel_rfl) (by kernel_rfl) (by kernel_rfl) (fun _ _ _ h => h) (Or.inl ⟨by rfl, ?_⟩) (by assumption) ?_
            · intro w hSw; (try dsimp only at hSw); go_simp
            simp only [Act.put, List.setIfInBounds_toArray, List.set_cons_zero, List.set_cons_succ]
            refine wpAnyH_take (i := 4) (oi := { dst := some 48, op := Op.move (Operand.tmp 14), type := 31, pos := "law.go:245", after := #[{ on := 3, ground := Ground.guard }], guard := some (3, true) }) (v := undef) rfl (by kernel_rfl) (by kernel_rfl) (by kernel_rfl) (fun _ _ _ h => h) (Or.inr ⟨by rfl, rfl⟩) (by assumption) ?_
            simp only [Act.put, List.setIfInBounds_toArray, List.set_cons_zero, List.set_cons_succ]
            refine wpAnyH_take (i := 5) (oi := { dst := some 49, op := Op.call { callee := Callee.builtin Builtin.len, args := #[Operand.tmp 48], argTypes := #[31] }, type := 3, pos := "law.go:245", after := #[{ on := 4, ground := Ground.data }, { on := 3, ground := Ground.guard }], guard := some (3, true) }) (v := undef) rfl (by kernel_rfl) (by kernel_rfl) (by kernel_rfl) (fun _ _ _ h => h) (Or.inr ⟨by rfl, rfl⟩) (by assumption) ?_
            simp only [Act.put, List.setIfInBounds_toArray, List.set_cons_zero, List.set_cons_succ]
            refine wpAnyH_take (i := 6) (oi := { dst := some 50, op := Op.binOp BinOp.neq 3 (Operand.tmp 49) (Operand.const (Value.int IntKind.i64 1)) 3, type := 4, pos := "law.go:245", after := #[{ on := 5, ground := Ground.data }, { on := 3, ground := Ground.guard }], guard := some (3, true) }) (v := undef) rfl (by kernel_rfl) (by kernel_rfl) (by kernel_rfl) (fun _ _ _ h => h) (Or.inr ⟨by rfl, rfl⟩) (by assumption) ?_
            simp only [Act.put, List.setIfInBounds_toArray, List.set_cons_zero, List.set_cons_succ]
            refine wpAnyH_take (i := 7) (oi := { dst := some 51, op := Op.move (Operand.tmp 50), type := 4, pos := "law.go:245", after := #[{ on := 6, ground := Ground.data }, { on := 3, ground := Ground.chain }, { on := 3, ground := Ground.guard }], guard := some (3, true) }) (v := undef) rfl (by kernel_rfl) (by kernel_rfl) (by kernel_rfl) (fun _ _ _ h => h) (Or.inr ⟨by rfl, rfl⟩) (by assumption) ?_
            simp only [Act.put, List.setIfInBounds_toArray, List.set_cons_zero, List.set_cons_succ]
            refine wpAnyH_take (i := 8) (oi := { dst := some 52, op := Op.move (Operand.tmp 14), type := 31, pos := "law.go:245", after := #[{ on := 7, ground := Ground.guard }], guard := some (7, false) }) (v := undef) rfl (by kernel_rfl) (by kernel_rfl) (by kernel_rfl) (fun _ _ _ h => h) (Or.inr ⟨by rfl, rfl⟩) (by assumption) ?_
            simp only [Act.put, List.setIfInBounds_toArray, List.set_cons_zero, List.set_cons_succ]
            refine wpAnyH_take (i := 9) (oi := { dst := some 53, op := Op.indexAddr 31 (Operand.tmp 52) (Operand.const (Value.int IntKind.i64 0)), type := 0, pos := "law.go:245", after := #[{ on := 8, ground := Ground.data }, { on := 7, ground := Ground.guard }], guard := some (7, false) }) (v := undef) rfl (by kernel_rfl) (by kernel_rfl) (by kernel_rfl) (fun _ _ _ h => h) (Or.inr ⟨by rfl, rfl⟩) (by assumption) ?_
            simp only [Act.put, List.setIfInBounds_toArray, List.set_cons_zero, List.set_cons_succ]
            refine wpAnyH_take (i := 10) (oi := { dst := some 54, op := Op.load 27 (Operand.tmp 53), type := 27, pos := "law.go:245", after := #[{ on := 9, ground := Ground.data }, { on := 7, ground := Ground.guard }], guard := some (7, false) }) (v := undef) rfl (by kernel_rfl) (by kernel_rfl) (by kernel_rfl) (fun _ _ _ h => h) (Or.inr ⟨by rfl, rfl⟩) (by assumption) ?_
            simp only [Act.put, List.setIfInBounds_toArray, List.set_cons_zero, List.set_cons_succ]
            refine wpAnyH_take (i := 11) (oi := { dst := some 55, op := Op.move (Operand.tmp 11), type := 31, pos := "law.go:245", after := #[{ on := 7, ground := Ground.guard }], guard := some (7, false) }) (v := undef) rfl (by kernel_rfl) (by kernel_rfl) (by kernel_rfl) (fun _ _ _ h => h) (Or.inr ⟨by rfl, rfl⟩) (by assumption) ?_
            simp only [Act.put, List.setIfInBounds_toArray, List.set_cons_zero, List.set_cons_succ]
            refine wpAnyH_take (i := 12) (oi := { dst := some 56, op := Op.indexAddr 31 (Operand.tmp 55) (Operand.const (Value.int IntKind.i64 0)), type := 0, pos := "law.go:245", after := #[{ on := 11, ground := Ground.data }, { on := 7, ground := Ground.guard }], guard := some (7, false) }) (v := undef) rfl (by kernel_rfl) (by kernel_rfl) (by kernel_rfl) (fun _ _ _ h => h) (Or.inr ⟨by rfl, rfl⟩) (by assumption) ?_
            simp only [Act.put, List.setIfInBounds_toArray, List.set_cons_zero, List.set_cons_succ]
            refine wpAnyH_take (i := 13) (oi := { dst := some 57, op := Op.load 27 (Operand.tmp 56), type := 27, pos := "law.go:245", after := #[{ on := 12, ground := Ground.data }, { on := 7, ground := Ground.guard }], guard := some (7, false) }) (v := undef) rfl (by kernel_rfl) (by kernel_rfl) (by kernel_rfl) (fun _ _ _ h => h) (Or.inr ⟨by rfl, rfl⟩) (by assumption) ?_
            simp only [Act.put, List.setIfInBounds_toArray, List.set_cons_zero, List.set_cons_succ]
            refine wpAnyH_take (i := 14) (oi := { dst := some 58, op := Op.binOp BinOp.neq 27 (Operand.tmp 54) (Operand.tmp 57) 27, type := 4, pos := "law.go:245", after := #[{ on := 10, ground := Ground.data }, { on := 13, ground := Ground.data }, { on := 7, ground := Ground.guard }], guard := some (7, false) }) (v := undef) rfl (by kernel_rfl) (by kernel_rfl) (by kernel_rfl) (fun _ _ _ h => h) (Or.inr ⟨by rfl, rfl⟩) (by assumption) ?_
            simp only [Act.put, List.setIfInBounds_toArray, List.set_cons_zero, List.set_cons_succ]
            refine wpAnyH_take (i := 15) (oi := { dst := some 59, op := Op.pick (Operand.tmp 51) (Operand.const (Value.bool true)) (Operand.tmp 58), type := 4, pos := "law.go:245", after := #[{ on := 7, ground := Ground.data }, { on := 14, ground := Ground.data }, { on := 3, ground := Ground.guard }], guard := some (3, true) }) (v := undef) rfl (by kernel_rfl) (by kernel_rfl) (by kernel_rfl) (fun _ _ _ h => h) (Or.inr ⟨by rfl, rfl⟩) (by assumption) ?_
            simp only [Act.put, List.setIfInBounds_toArray, List.set_cons_zero, List.set_cons_succ]
            refine wpAnyH_take (i := 16) (oi := { dst := some 60, op := Op.pick (Operand.tmp 47) (Operand.tmp 59) (Operand.const (Value.bool false)), type := 4, pos := "law.go:245", after := #[{ on := 3, ground := Ground.data }, { on := 15, ground := Ground.data }], guard := none }) (v := .bool false) rfl (by kernel_rfl) (by kernel_rfl) (by kernel_rfl) (fun _ _ _ h => h) (Or.inl ⟨by rfl, ?_⟩) (by assumption) ?_
            · intro w hSw; (try dsimp only at hSw); go_simp
            simp only [Act.put, List.setIfInBounds_toArray, List.set_cons_zero, List.set_cons_succ]
            refine wpAnyH_take (i := 17) (oi := { dst := some 61, op := Op.move (Operand.tmp 60), type := 4, pos := "law.go:245", after := #[{ on := 16, ground := Ground.data }, { on := 7, ground := Ground.chain }], guard := none }) (v := .bool false) rfl (by kernel_rfl) (by kernel_rfl) (by kernel_rfl) (fun _ _ _ h => h) (Or.inl ⟨by rfl, ?_⟩) (by assumption) ?_
            · intro w hSw; (try dsimp only at hSw); go_simp
            simp only [Act.put, List.setIfInBounds_toArray, List.set_cons_zero, List.set_cons_succ]
            refine wpAnyH_take (i := 18) (oi := { dst := some 62, op := Op.move (Operand.tmp 7), type := 24, pos := "law.go:245", after := #[{ on := 17, ground := Ground.guard }], guard := some (17, false) }) (v := .pointer (some ⟨ba, 0, none⟩)) rfl (by kernel_rfl) (by kernel_rfl) (by kernel_rfl) (fun _ _ _ h => h) (Or.inl ⟨by rfl, ?_⟩) (by assumption) ?_
            · intro w hSw; (try dsimp only at hSw); go_simp
            simp only [Act.put, List.setIfInBounds_toArray, List.set_cons_zero, List.set_cons_succ]
            refine wpAnyH_take (i := 19) (oi := { dst := some 63, op := Op.move (Operand.tmp 10), type := 27, pos := "law.go:245", after := #[{ on := 17, ground := Ground.guard }], guard := some (17, false) }) (v := .int .u64 z) rfl (by kernel_rfl) (by kernel_rfl) (by kernel_rfl) (fun _ _ _ h => h) (Or.inl ⟨by rfl, ?_⟩) (by assumption) ?_
            · intro w hSw; (try dsimp only at hSw); go_simp
            simp only [Act.put, List.setIfInBounds_toArray, List.set_cons_zero, List.set_cons_succ]
            refine wpAnyH_take (i := 20) (oi := { dst := some 64, op := Op.move (Operand.tmp 11), type := 31, pos := "law.go:245", after := #[{ on := 17, ground := Ground.guard }], guard := some (17, false) }) (v := .slice Aw 0 cw) rfl (by kernel_rfl) (by kernel_rfl) (by kernel_rfl) (fun _ _ _ h => h) (Or.inl ⟨by rfl, ?_⟩) (by assumption) ?_
            · intro w hSw; (try dsimp only at hSw); go_simp
            simp only [Act.put, List.setIfInBounds_toArray, List.set_cons_zero, List.set_cons_succ]
            refine wpAnyH_take (i := 21) (oi := { dst := some 65, op := Op.call { callee := Callee.builtin Builtin.len, args := #[Operand.tmp 64], argTypes := #[31] }, type := 3, pos := "law.go:245", after := #[{ on := 20, ground := Ground.data }, { on := 17, ground := Ground.guard }], guard := some (17, false) }) (v := .int .i64 0) rfl (by kernel_rfl) (by kernel_rfl) (by kernel_rfl) (fun _ _ _ h => h) (Or.inl ⟨by rfl, ?_⟩) (by assumption) ?_
            · intro w hSw; (try dsimp only at hSw); go_simp
            simp only [Act.put, List.setIfInBounds_toArray, List.set_cons_zero, List.set_cons_succ]
            refine wpAnyH_take (i := 23) (oi := { dst := some 67, op := Op.move (Operand.tmp 11), type := 31, pos := "law.go:245", after := #[{ on := 17, ground := Ground.guard }], guard := some (17, false) }) (v := .slice Aw 0 cw) rfl (by kernel_rfl) (by kernel_rfl) (by kernel_rfl) (fun _ _ _ h => h) (Or.inl ⟨by rfl, ?_⟩) (by assumption) ?_
            · intro w hSw; (try dsimp only at hSw); go_simp
            simp only [Act.put, List.setIfInBounds_toArray, List.set_cons_zero, List.set_cons_succ]
            refine wpAnyH_ready (rs := [22]) (by kernel_rfl) (by simp) ?_
            refine AllReadyH.cons (o := { dst := some 66, op := Op.call { callee := Callee.value (Operand.func 35), args := #[Operand.tmp 62, Operand.tmp 63, Operand.tmp 65], argTypes := #[24, 27, 3] }, type := 31, pos := "law.go:245", after := #[{ on := 18, ground := Ground.data }, { on := 19, ground := Ground.data }, { on := 21, ground := Ground.data }, { on := 17, ground := Ground.chain }, { on := 17, ground := Ground.guard }], guard := some (17, false) }) rfl (fun K hK => ?_) AllReadyH.nil
            go_simp
            refine (HT1.out _ hHeld).mono ?_
            rintro e wc ⟨A6, c6, rfl, hrow6, hbc⟩
            go_wp2_with fail
            refine hK.out _ _ ?_ (fun hHeld2 => ?_)
            · exact below_then (by assumption) hbc
            clear hK K hHeld; have hHeld := hHeld2; clear hHeld2
            try simp only [Act.put, List.setIfInBounds_toArray, List.set_cons_zero, List.set_cons_succ]
            refine wpAnyH_ready (rs := [24]) (by kernel_rfl) (by simp) ?_
            refine AllReadyH.cons (o := { dst := some 68, op := Op.call { callee := Callee.value (Operand.func 36), args := #[Operand.tmp 66, Operand.tmp 67], argTypes := #[31, 31] }, type := 4, pos := "law.go:245", after := #[{ on := 22, ground := Ground.data }, { on := 23, ground := Ground.data }, { on := 22, ground := Ground.chain }, { on := 17, ground := Ground.guard }], guard := some (17, false) }) rfl (fun K hK => ?_) AllReadyH.nil
            go_simp
            refine (samewords_any _ [] _ _ _ _ (WReads.nil _ _) (WReads.nil _ _) (by simp)).mono ?_
            rintro e wc2 ⟨rfl, hbc⟩
            go_wp2_with fail
            refine hK.out _ _ ?_ (fun hHeld2 => ?_)
            · exact below_then (by assumption) hbc
            clear hK K hHeld; have hHeld := hHeld2; clear hHeld2
            try simp only [Act.put, List.setIfInBounds_toArray, List.set_cons_zero, List.set_cons_succ]
            refine wpAnyH_take (i := 25) (oi := { dst := some 69, op := Op.unOp UnOp.not 4 (Operand.tmp 68), type := 4, pos := "law.go:245", after := #[{ on := 24, ground := Ground.data }, { on := 17, ground := Ground.guard }], guard := some (17, false) }) (v := .bool false) rfl (by kernel_rfl) (by kernel_rfl) (by kernel_rfl) (fun _ _ _ h => h) (Or.inl ⟨by rfl, ?_⟩) (by assumption) ?_
            · intro w hSw; (try dsimp only at hSw); go_simp
            simp only [Act.put, List.setIfInBounds_toArray, List.set_cons_zero, List.set_cons_succ]
            refine wpAnyH_take (i := 26) (oi := { dst := some 70, op := Op.pick (Operand.tmp 61) (Operand.const (Value.bool true)) (Operand.tmp 69), type := 4, pos := "law.go:245", after := #[{ on := 17, ground := Ground.data }, { on := 25, ground := Ground.data }], guard := none }) (v := .bool false) rfl (by kernel_rfl) (by kernel_rfl) (by kernel_rfl) (fun _ _ _ h => h) (Or.inl ⟨by rfl, ?_⟩) (by assumption) ?_
            · intro w hSw; (try dsimp only at hSw); go_simp
            simp only [Act.put, List.setIfInBounds_toArray, List.set_cons_zero, List.set_cons_succ]
            refine wpAnyH_done (by kernel_rfl) ?_ _
            first
              | go_meet
              | (go_simp; refine ‹∀ (a' : Act) (w' : World), Met _ a' w' → _› _ _ ?_; go_meet)
            exact ⟨rfl, hHeld⟩
          · have hm1 : m1 = 1 := by rw [← HM1.out, List.length_take]; omega
            subst hm1
            obtain ⟨b1, o1, hAw, q1⟩ := HWW5.out 0 hpos
            obtain ⟨b2, o2, hA5, q2⟩ := HR5.out 0 (by rw [List.length_take]; omega)
            subst hAw
            subst hA5
            have e2 : (ws.take (0 + 1))[0]'(by rw [List.length_take]; omega) = ws[0] := List.getElem_take
            rw [e2] at q2
            obtain ⟨y0, hy0⟩ : ∃ y, ws[0] = y := ⟨_, rfl⟩
            rw [hy0, Nat.add_zero] at q1 q2
            have g0 : decide ((0 : Int) < (ws.length : Int)) = true := decide_eq_true (by omega)
            have i0 : (0 : Int) < (ws.length : Int) := by omega
            have e3 : (y0 != y0) = false := by simp
            clear hy0 e2
            go_region_held3 (fun W' => W'.cell? ⟨b1, o1, none⟩ = some (.int .u64 y0) ∧ W'.cell? ⟨b2, o2, none⟩ = some (.int .u64 y0) ∧ Below w5.heap.size w5 W')
              (first
                | exact ⟨q1, q2, (Below.refl _ _).drew⟩
                | exact (fun hB' => ⟨cell_below hB' q1, cell_below hB' q2, hB'⟩) (below_then (by assumption) hbc)
                | exact (fun hB' => ⟨cell_below hB' q1, cell_below hB' q2, hB'⟩) (below_then (Below.drew (by assumption)) hbc)
                | go_keep)
              (first
                | (go_at_call 35; go_split_ands; refine (HT1.out _ (by assumption)).mono ?_; rintro e wc ⟨A6, c6, rfl, hrow6, hbc⟩; have HR6 := Lib.hid (WReads.of_row hrow6))
                | (go_at_call 36; go_split_ands; refine (samewords_any _ ws _ _ _ _ HR6.out (HWW5.out.below (by assumption)) (by omega)).mono ?_; rintro e wc ⟨rfl, hbc⟩))
            all_goals
              first
                | go_meet
                | (go_simp; refine ‹∀ (a' : Act) (w' : World), Met _ a' w' → _› _ _ ?_; go_meet)
            all_goals exact ⟨rfl, below_then (by assumption) hbc⟩
        case rest =>
          obtain ⟨rfl, hB6⟩ := hcut
          have HB6 := Lib.hid (below_then hB.out (below_then HB5.out hB6))
          clear hB6
          go_wp2
          go_roundw
          case rel => exact ⟨j + 1, by omega, by go_num, HB6⟩
          case measure => simp [intOf]; omega
    · have hbl : decide ((j : Int) < 2) = false := decide_eq_false (by omega)
      have hak := awake_any wr (HT.out.below HBW.out)
      clear hlt hj
      go_wp2_with fail
      refine hak.mono ?_
      rintro e w5 ⟨rfl, hb5⟩
      go_wp2
      go_ret
      exact ⟨rfl, below_then HBW.out hb5⟩
end Go.Proofs.YthgnihckeckaiaaDoor.Tm
