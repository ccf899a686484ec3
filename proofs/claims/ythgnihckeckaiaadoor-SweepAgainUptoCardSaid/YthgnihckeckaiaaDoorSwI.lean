/- Sweep's law: reach. -/
import Derived.Test.YthgnihckeckaiaaDoorSwJ
import Derived.Test.YthgnihckeckaiaaDoorSwR
namespace Go.Proofs.YthgnihckeckaiaaDoor.Tm
open Go.RowKit Go.Shelf
set_option linter.unusedVariables false
set_option linter.unusedSimpArgs false

structure LrRep (w wr : World) (mo sB : List Int) (vM vS : Value) : Prop where
  base : Below w.heap.size w wr
  out : wr.ownsRow w.heap.size 27 1 vM mo.length (encW mo)
  stk : wr.ownsRow w.heap.size 27 1 vS sB.length (encW sB)
  ne : ∀ k, vM.ownBlock = some k → vS.ownBlock ≠ some k
theorem LrRep.below {w wr w' : World} {mo sB : List Int} {vM vS : Value} (h : LrRep w wr mo sB vM vS) (hB : Below wr.heap.size wr w') : LrRep w w' mo sB vM vS :=
  ⟨below_then h.base hB, row_below h.out hB, row_below h.stk hB, h.ne⟩
theorem LrRep.last {w wr : World} {mo sB : List Int} {y : Int} {vM vS : Value} (h : LrRep w wr mo (sB ++ [y]) vM vS) :
    ∃ g cap, vS = .slice (some ⟨g, 0, none⟩) (sB.length + 1) cap ∧ sB.length + 1 ≤ cap ∧ wr.cell? ⟨g, sB.length, none⟩ = some (.int .u64 y) := by
  have hr := h.stk
  rw [List.length_append, List.length_singleton, encW_snoc] at hr
  rcases hr.2 with ⟨_, h0⟩ | ⟨g, cap, cur, rfl, _, _, hc, _⟩
  · omega
  · refine ⟨g, cap, rfl, hc, ?_⟩
    rw [hr.cellAt _ (by omega), List.getElem?_append_right (by rw [encW_len]; omega), encW_len]
    simp
theorem LrRep.pop {w wr : World} {mo sB : List Int} {y : Int} {vM : Value} {g cap : Nat} (h : LrRep w wr mo (sB ++ [y]) vM (.slice (some ⟨g, 0, none⟩) (sB.length + 1) cap)) : LrRep w wr mo sB vM (.slice (some ⟨g, 0, none⟩) sB.length cap) := by
  have hr := h.stk
  rw [List.length_append, List.length_singleton, encW_snoc] at hr
  exact ⟨h.base, h.out, ownsRow_pop (encW_len sB) hr, h.ne⟩
theorem LrRep.push {w wr wa w' : World} {mo sB : List Int} {vM vS v' : Value} (h : LrRep w wr mo sB vM vS) (hB : Below wr.heap.size wr wa) (hg : wa.grownBy w' vS.ownBlock) {y : Int}
    (hrow : w'.ownsRow w.heap.size 27 1 v' (sB.length + 1) (encW sB ++ [.int .u64 y])) (hat : v'.ownBlock = vS.ownBlock ∨ v'.ownBlock = some wa.heap.size) : LrRep w w' mo (sB ++ [y]) vM v' := by
  have h := h.below hB
  refine ⟨below_grown h.base hg (row_base h.stk), h.out.kept hg ?_, ?_, fun k hk e => ?_⟩
  · cases hv : vM.ownBlock with
    | none => exact .inl rfl
    | some k => exact .inr (fun e => h.ne k hv e.symm)
  · rw [List.length_append, List.length_singleton, encW_snoc]
    exact hrow
  · rcases hat with h' | h'
    · exact h.ne k hk (h' ▸ e)
    · rw [e] at h'
      injection h' with h'
      have := row_lt h.out k hk; omega
theorem LrRep.more {w wr wa w' : World} {mo sB : List Int} {vM vS v' : Value} (h : LrRep w wr mo sB vM vS) (hB : Below wr.heap.size wr wa) (hg : wa.grownBy w' vM.ownBlock) {y : Int}
    (hrow : w'.ownsRow w.heap.size 27 1 v' (mo.length + 1) (encW mo ++ [.int .u64 y])) (hat : v'.ownBlock = vM.ownBlock ∨ v'.ownBlock = some wa.heap.size) : LrRep w w' (mo ++ [y]) sB v' vS := by
  have h := h.below hB
  refine ⟨below_grown h.base hg (row_base h.out), ?_, h.stk.kept hg ?_, fun k hk e => ?_⟩
  · rw [List.length_append, List.length_singleton, encW_snoc]
    exact hrow
  · cases hv : vS.ownBlock with
    | none => exact .inl rfl
    | some k => exact .inr (fun e => h.ne k e.symm hv)
  · rcases hat with h' | h'
    · exact h.ne k (h' ▸ hk) e
    · rw [hk] at h'
      injection h' with h'
      have := row_lt h.stk k e; omega
/-- Where the run of all roots stands; R: how many roots there are. -/
structure LrNow (L : List ObjA) (R : Nat) (T m sB : List Int) : Prop where
  met : MetOk L m
  ok : ∀ p ∈ sB, FindOk L p
  res : sB.reverse.foldl (preW L) m = T
  bnd : sB.length + 256 * (L.length - m.length) ≤ R + 256 * L.length
theorem LrNow.pop {L : List ObjA} (hw : WfA L) {R : Nat} {T m sB : List Int} {y : Int} (h : LrNow L R T m (sB ++ [y])) (hs : ptrW y = false ∨ y ∈ m) : LrNow L R T m sB := by
  refine ⟨h.met, fun p hp => h.ok p (by simp [hp]), ?_, ?_⟩
  · have := h.res
    rw [List.reverse_append, List.reverse_singleton, List.singleton_append, pre_pop hw _ hs] at this
    exact this
  · have := h.bnd
    rw [List.length_append, List.length_singleton] at this
    omega
theorem LrNow.push {L : List ObjA} (hw : WfA L) {R : Nat} {T m sB : List Int} {y : Int} (h : LrNow L R T m (sB ++ [y])) (hp : ptrW y = true) (hn : y ∉ m) : LrNow L R T (m ++ [y]) (sB ++ (partsW L y).reverse) ∧ m.length + 1 ≤ L.length := by
  have hm := h.met.add (h.ok y (by simp)) hp hn
  have hl := hm.len
  rw [List.length_append, List.length_singleton] at hl
  refine ⟨⟨hm, fun p hq => ?_, ?_, ?_⟩, hl⟩
  · rcases List.mem_append.1 hq with hq | hq
    · exact h.ok p (by simp [hq])
    · exact (parts_rank hw (List.mem_reverse.1 hq)).1
  · have := h.res
    rw [List.reverse_append, List.reverse_singleton, List.singleton_append, pre_push hw _ hp hn] at this
    rw [List.reverse_append, List.reverse_reverse]
    exact this
  · have h1 := h.bnd
    have h2 := parts_len hw y
    rw [List.length_append, List.length_singleton] at h1
    rw [List.length_append, List.length_append, List.length_reverse, List.length_singleton]
    omega
set_option maxRecDepth 10000 in
set_option maxHeartbeats 16000000 in
theorem lreach_any (w : World) (O : Nat → Prop) (ba room : Nat) (L : List ObjA) (roots : List Int) (A : Option Addr) (cap : Nat) (hA : ArAt w O ba room L) (hr : WReads w A roots) (hx : ∀ x ∈ roots, 0 ≤ x ∧ x < 18446744073709551616) (hlen : roots.length ≤ 1000000000000) :
    Calls Tryd.prog 52 #[.pointer (some ⟨ba, 0, none⟩), .slice A roots.length cap] w fun e w' => ∃ A' c', e = .returned (.tuple #[.slice A' (rchX L roots).length c', .bool (allFind L roots)]) ∧ w'.ownsRow w.heap.size 27 1 (.slice A' (rchX L roots).length c') (rchX L roots).length (encW (rchX L roots)) ∧ Below w.heap.size w w' := by
  have hwf := hA.wf
  have hlims := hA.lims
  have hll := hwf.len
  have HA := Lib.hid hA
  have HR := Lib.hid hr
  have HX := Lib.hid hx
  have HWF := Lib.hid hwf
  clear hA hr hx hwf
  go_enter Tryd.func52, Tryd.ntmps52
  go_wp2_with fail
  go_loopw [6] (fun i wr => ∃ j : Nat, j ≤ roots.length ∧ i = .int .i64 (j : Int) ∧ Hid (Below w.heap.size w wr) ∧ Hid (∀ q (h : q < roots.length), q < j → (findA L roots[q]).isSome = true)) (fun i wr => roots.length - (intOf i).toNat)
  case atStart => exact ⟨0, Nat.zero_le _, rfl, Lib.hid (Below.refl _ _), Lib.hid (fun q _ h => absurd h (Nat.not_lt_zero q))⟩
  case round =>
    obtain ⟨j, hj, rfl, hB, hF⟩ := hrel
    by_cases hlt : j < roots.length
    · obtain ⟨g, o, rfl, q0⟩ := (HR.out.below hB.out) j hlt
      have hxr := HX.out roots[j] (List.getElem_mem hlt)
      have hj1 : (j : Int) < (roots.length : Int) := by omega
      have hj0 : (0 : Int) ≤ (j : Int) := Int.natCast_nonneg _
      have hbl : decide ((j : Int) < (roots.length : Int)) = true := decide_eq_true hj1
      obtain ⟨x, hxe⟩ : ∃ x, roots[j] = x := ⟨_, rfl⟩
      rw [hxe] at q0 hxr
      have hce := acell_any wr O ba room L x hxr.1 hxr.2 (HA.out.below hB.out)
      have hse := seen_is (L := L) x
      obtain ⟨cc, hcc⟩ : ∃ c, cellS (seenA L x) = c := ⟨_, rfl⟩
      rw [hcc] at hce
      simp only [CellD.agg] at hce
      have HXE := Lib.hid hxe
      clear hxe hcc
      cases hf : (findA L x).isSome with
      | true =>
        have he0 : errS (seenA L x) = 0 := by
          rw [hf] at hse
          cases hs : seenA L x with
          | none => rw [hs] at hse; cases hse
          | some r => rfl
        rw [he0] at hce
        have HNF := Lib.hid (show ∀ q (h : q < roots.length), q < j + 1 → (findA L roots[q]).isSome = true from fun q hq hqj => by
          by_cases e : q = j
          · subst e
            rw [HXE.out]
            exact hf
          · exact hF.out q hq (by omega))
        clear hf hF hse he0
        go_wp2_with fail
        refine hce.mono ?_
        rintro e w2 ⟨rfl, hb2⟩
        have HB2 := Lib.hid (below_alloc' (below_then hB.out hb2) (.cells #[.int .i64 cc.kind, .int .i64 cc.n, .string cc.text] 40))
        clear hb2 hce q0
        go_wp2
        go_roundw
        case rel => exact ⟨j + 1, by omega, by go_num, HB2, HNF⟩
        case measure => simp [intOf]; omega
      | false =>
        have he1 : errS (seenA L x) = 31 := by
          rw [hf] at hse
          cases hs : seenA L x with
          | none => rfl
          | some r => rw [hs] at hse; cases hse
        rw [he1] at hce
        have hbad : allFind L roots = false := allFind_bad hlt (by
          rw [HXE.out]
          cases h : findA L x with
          | none => rfl
          | some k => rw [h] at hf; cases hf)
        have HE := Lib.hid (⟨hbad, by unfold rchX; rw [hbad]; rfl⟩ : allFind L roots = false ∧ rchX L roots = [])
        clear hf hF hbad hse he1
        go_wp2_with fail
        refine hce.mono ?_
        rintro e w2 ⟨rfl, hb2⟩
        have HB2 := Lib.hid (below_alloc' (below_then hB.out hb2) (.cells #[.int .i64 cc.kind, .int .i64 cc.n, .string cc.text] 40))
        clear hb2 hce q0
        go_wp2
        go_ret2
        rw [HE.out.1, HE.out.2]
        exact ⟨none, 0, rfl, row_nil _ _ _ _, HB2.out⟩
    · have hbl : decide ((j : Int) < (roots.length : Int)) = false := decide_eq_false (by omega)
      have hall : allFind L roots = true := allFind_all fun q hq => hF.out q hq (by omega)
      have hxok : ∀ x ∈ roots, FindOk L x := fun x hx => by
        obtain ⟨q, hq, rfl⟩ := List.mem_iff_getElem.1 hx
        exact ⟨hF.out q hq (by omega), HX.out _ hx⟩
      have HE := Lib.hid (⟨hall, by unfold rchX; rw [if_pos hall]⟩ : allFind L roots = true ∧ rchX L roots = rchW L roots)
      have HOK := Lib.hid hxok
      have HB0 := hB
      obtain ⟨wo, hwo⟩ : ∃ W, W = wr := ⟨_, rfl⟩
      subst hwo
      have HS0 := Lib.hid (show LrRep w wo [] [] (.slice none 0 0) (.slice none 0 0) from ⟨hB.out, row_nil _ _ _ _, row_nil _ _ _ _, fun k hk => by simp [Value.ownBlock] at hk⟩)
      have hwrp : IntKind.i64.wrap ((roots.length : Int) - 1) = (roots.length : Int) - 1 := by rw [IntKind.wrap_i64]; omega
      clear hF hall hxok hB
      go_wp2_with fail
      clear hlt hbl hj
      go_loopw [10, 11] (fun vS i wr => ∃ q : Nat, q ≤ roots.length ∧ i = .int .i64 ((roots.length : Int) - 1 - (q : Int)) ∧ Hid (LrRep w wr [] (roots.reverse.take q) (.slice none 0 0) vS)) (fun vS i wr => (intOf i + 1).toNat)
      case atStart => exact ⟨0, Nat.zero_le _, by simp, HS0⟩
      case round =>
        clear HS0
        obtain ⟨q, hq, rfl, hG⟩ := hrel
        by_cases hlt : q < roots.length
        · have hidx : roots.length - 1 - q < roots.length := by omega
          obtain ⟨b, o', hAP, hc⟩ := (HR.out.below hG.out.base) (roots.length - 1 - q) hidx
          subst hAP
          have hnext : roots.reverse.take (q + 1) = roots.reverse.take q ++ [roots[roots.length - 1 - q]] := by
            rw [List.take_succ_eq_append_getElem (by simpa using hlt), List.getElem_reverse]
          have HNX := Lib.hid hnext
          have hKq : (roots.reverse.take q).length = q := by rw [List.length_take, List.length_reverse]; omega
          obtain ⟨AS, cS, hvS⟩ := row_slice hG.out.stk
          rw [hKq] at hvS
          subst hvS
          have HG := hG
          have hrow := hG.out.stk
          rw [hKq] at hrow
          have HROW := Lib.hid hrow
          have HKK := Lib.hid hKq
          obtain ⟨yv, hyv⟩ : ∃ v, roots[roots.length - 1 - q] = v := ⟨_, rfl⟩
          rw [hyv] at hc HNX
          have hsw := hG.out.base.size
          have g1 : decide ((0 : Int) ≤ (roots.length : Int) - 1 - (q : Int)) = true := decide_eq_true (by omega)
          have e3 : (0 : Int) ≤ (roots.length : Int) - 1 - (q : Int) := by omega
          have e4 : (roots.length : Int) - 1 - (q : Int) < (roots.length : Int) := by omega
          have e5 : ((roots.length : Int) - 1 - (q : Int)).toNat = roots.length - 1 - q := by omega
          have e6 : roots.length - 1 - q < roots.length := by omega
          have e7 : IntKind.i64.wrap ((roots.length : Int) - 1 - (q : Int) - 1) = (roots.length : Int) - 1 - (q : Int) - 1 := by rw [IntKind.wrap_i64]; omega
          obtain ⟨j0, ji, jz0, jz1, jz2⟩ := info_parts word_info
          clear hG hrow hKq hnext hyv hidx
          go_wp2_with (at_builtin
                       refine wpList_append_own_at _ rfl (.tmp 40) (.tmp 45) _ rfl w.heap.size 27 j0 (.int .u64 0) 1 8 Tryd.underlying31 ji jz0 jz1 jz2 rfl (by decide) (.slice AS q cS) q (encW (roots.reverse.take q)) rfl (HROW.out.alloc _) ⟨wr.heap.size, 0, none⟩ 1 1 [.int .u64 yv] rfl rfl (cell_one_new _ _ _) (by simp [Value.oneCell']) (by unfold maxLen; omega) (by omega) (by rw [World.size_alloc]; omega) ?_
                       intro v9 w9 hown9 hgrow9 hnil9 hat9)
          have HS9 : Hid (LrRep w w9 [] (roots.reverse.take (q + 1)) (.slice none 0 0) v9) := Lib.hid (by
            rw [HNX.out]
            exact HG.out.push (below_one wr _) hgrow9 (by rw [HKK.out]; exact hown9) hat9)
          clear hown9 hgrow9 hnil9 hat9
          go_roundw
          case rel => exact ⟨q + 1, by omega, by first | (congr 1; omega) | (simp; omega), HS9⟩
          case measure => simp [intOf]; omega
        · obtain rfl : q = roots.length := by omega
          have e : roots.reverse.take roots.length = roots.reverse := List.take_of_length_le (by simp)
          rw [e] at hG
          have g1 : decide ((0 : Int) ≤ (roots.length : Int) - 1 - (roots.length : Int)) = false := decide_eq_false (by omega)
          have g2 : ¬ (0 : Int) ≤ (roots.length : Int) - 1 - (roots.length : Int) := by omega
          have HN0 : Hid (LrNow L roots.length (rchW L roots) [] roots.reverse) := Lib.hid ⟨MetOk.nil L, fun p hp => HOK.out p (List.mem_reverse.1 hp), by rw [List.reverse_reverse]; rfl, by rw [List.length_reverse]; simp⟩
          obtain ⟨AS, cS, hvS⟩ := row_slice hG.out.stk
          rw [List.length_reverse] at hvS
          subst hvS
          obtain ⟨wp, hwp⟩ : ∃ W, W = wr := ⟨_, rfl⟩
          subst hwp
          have HG0 := hG
          clear hlt hq hG
          go_wp2_with fail
          go_loopw [9, 10] (fun vM vS wr => ∃ (m1 sB : List Int), Hid (LrRep w wr m1 sB vM vS) ∧ Hid (LrNow L roots.length (rchW L roots) m1 sB)) (fun vM vS wr => vLen vS + 300 * (L.length - vLen vM))
          case atStart => exact ⟨[], roots.reverse, HG0, HN0⟩
          case round =>
            clear HG0 HN0
            obtain ⟨m1, sB, hS, hN⟩ := hrel
            obtain ⟨AM, cM, hvM⟩ := row_slice hS.out.out
            subst hvM
            rcases List.eq_nil_or_concat sB with rfl | ⟨s0, y, rfl⟩
            · obtain ⟨AS, cS, hvS⟩ := row_slice hS.out.stk
              rw [List.length_nil] at hvS
              subst hvS
              have hend : m1 = rchW L roots := hN.out.res
              have HEND := Lib.hid hend
              clear hend
              go_wp2
              go_ret2
              rw [HE.out.1, HE.out.2, ← HEND.out]
              exact ⟨AM, cM, rfl, hS.out.out, hS.out.base⟩
            · rw [List.concat_eq_append] at hS hN
              obtain ⟨g, cp, rfl, hcp, q0⟩ := hS.out.last
              have hyok := hN.out.ok y (by simp)
              have hbnd := hN.out.bnd
              rw [List.length_append, List.length_singleton] at hbnd
              have hml := hN.out.met.len
              have hkd := rkind_any y wr hyok.2.1 hyok.2.2
              obtain ⟨M, hM⟩ : ∃ M, s0.length + 1 = M := ⟨_, rfl⟩
              have hs0' : s0.length = M - 1 := by omega
              rw [hs0'] at q0
              have HM := Lib.hid hM
              have g3 : decide ((0 : Int) < (M : Int)) = true := decide_eq_true (by omega)
              have g4 : 0 < M := by omega
              have w3 : IntKind.i64.wrap ((M : Int) - 1) = (M : Int) - 1 := by rw [IntKind.wrap_i64]; omega
              have b2 : (0 : Int) ≤ (M : Int) - 1 := by omega
              have b2' : (1 : Int) ≤ (M : Int) := by omega
              have d2 : (M : Int) - 1 < (M : Int) := by omega
              have t2 : ((M : Int) - 1).toNat = M - 1 := by omega
              have d3 : M - 1 < M := by omega
              have hcp' : M ≤ cp := by omega
              have hMle : M ≤ 2000000000000 := by omega
              have HS1 := Lib.hid hS.out.pop
              rw [hM]
              have hszr := hS.out.base.size
              have HREL : Hid (LrRep w wr m1 s0 (.slice AM m1.length cM) (.slice (some ⟨g, 0, none⟩) (M - 1) cp)) := Lib.hid (by have h := HS1.out; rw [hs0'] at h; exact h)
              have hplc := place_any wr m1 AM cM y (WReads.of_row HREL.out.out) (by omega)
              rcases kd_range y with k | k | k | k | k | k
              · have hp : ptrW y = false := by unfold ptrW; rw [k]; rfl
                have HN1 := Lib.hid (hN.out.pop HWF.out (.inl hp))
                rw [k] at hkd
                clear hS hN hyok hM hs0' hbnd hplc hp k HS1
                go_wp2_with fail
                refine hkd.mono ?_
                rintro e w6 ⟨rfl, hw6⟩
                subst hw6
                go_wp2
                go_roundw
                case rel => exact ⟨m1, s0, HREL, HN1⟩
                case measure => simp [vLen]; omega
              · have hp : ptrW y = false := by unfold ptrW; rw [k]; rfl
                have HN1 := Lib.hid (hN.out.pop HWF.out (.inl hp))
                rw [k] at hkd
                clear hS hN hyok hM hs0' hbnd hplc hp k HS1
                go_wp2_with fail
                refine hkd.mono ?_
                rintro e w6 ⟨rfl, hw6⟩
                subst hw6
                go_wp2
                go_roundw
                case rel => exact ⟨m1, s0, HREL, HN1⟩
                case measure => simp [vLen]; omega
              · have hp : ptrW y = false := by unfold ptrW; rw [k]; rfl
                have HN1 := Lib.hid (hN.out.pop HWF.out (.inl hp))
                rw [k] at hkd
                clear hS hN hyok hM hs0' hbnd hplc hp k HS1
                go_wp2_with fail
                refine hkd.mono ?_
                rintro e w6 ⟨rfl, hw6⟩
                subst hw6
                go_wp2
                go_roundw
                case rel => exact ⟨m1, s0, HREL, HN1⟩
                case measure => simp [vLen]; omega
              · have hp : ptrW y = true := by unfold ptrW; rw [k]; rfl
                rw [k] at hkd
                by_cases hmem : y ∈ m1
                · have HN1 := Lib.hid (hN.out.pop HWF.out (.inr hmem))
                  have HDM := Lib.hid (show decide (y ∈ m1) = true from decide_eq_true hmem)
                  clear hS hN hyok hM hs0' hbnd hp k HS1 hmem
                  go_wp2_with fail
                  refine hkd.mono ?_
                  rintro e w6 ⟨rfl, hw6⟩
                  subst hw6
                  go_wp2_with fail
                  refine hplc.mono ?_
                  rintro e w7 ⟨pn, rfl, hpn, hp0, hp1, hb7⟩
                  rw [HDM.out] at hpn
                  have HR7 := Lib.hid (HREL.out.below hb7)
                  clear hplc hb7 hkd
                  go_wp2
                  go_roundw
                  case rel => exact ⟨m1, s0, HR7, HN1⟩
                  case measure => simp [vLen]; omega
                · obtain ⟨hNW, hml1⟩ := hN.out.push HWF.out hp hmem
                  have HNW := Lib.hid hNW
                  have HDM := Lib.hid (show decide (y ∈ m1) = false from decide_eq_false hmem)
                  have hpl := parts_len HWF.out y
                  obtain ⟨P, hP⟩ : ∃ P, partsW L y = P := ⟨_, rfl⟩
                  have HPE := Lib.hid hP
                  rw [hP] at HNW hpl
                  have HYO := Lib.hid hyok
                  clear hS hN hyok hM hs0' hbnd hp k HS1 hmem hNW hP
                  go_wp2_with fail
                  refine hkd.mono ?_
                  rintro e w6 ⟨rfl, hw6⟩
                  subst hw6
                  go_wp2_with fail
                  refine hplc.mono ?_
                  rintro e w7 ⟨pn, rfl, hpn, hp0, hp1, hb7⟩
                  rw [HDM.out] at hpn
                  have hpn2 : ¬ 0 ≤ pn := of_decide_eq_false hpn
                  have HR7 := Lib.hid (HREL.out.below hb7)
                  have HOUT := Lib.hid HR7.out.out
                  have hsz7 := HR7.out.base.size
                  obtain ⟨i0, hi, hz0, hz1, hz2⟩ := info_parts word_info
                  clear hplc hb7 hkd HREL
                  go_wp2_with (at_builtin
                               refine wpList_append_own_at _ rfl (.tmp 75) (.tmp 77) _ rfl w.heap.size 27 i0 (.int .u64 0) 1 8 Tryd.underlying31 hi hz0 hz1 hz2 rfl (by decide) (.slice AM m1.length cM) m1.length (encW m1) rfl (HOUT.out.alloc _) ⟨w7.heap.size, 0, none⟩ 1 1 [.int .u64 y] rfl rfl (cell_one_new _ _ _) (by simp [Value.oneCell']) (by unfold maxLen; omega) (by omega) (by rw [World.size_alloc]; omega) ?_
                               intro v8 w8 hown8 hgrow8 hnil8 hat8)
                  have HS8 := Lib.hid (HR7.out.more (below_one w7 _) hgrow8 hown8 hat8)
                  obtain ⟨A8, c8, hv8⟩ := row_slice HS8.out.out
                  rw [List.length_append, List.length_singleton] at hv8
                  subst hv8
                  have hheld := holds_any w8 O ba room L y (HA.out.below HS8.out.base) HYO.out.2.1 HYO.out.2.2
                  rw [HPE.out] at hheld
                  clear hown8 hgrow8 hnil8 hat8 HR7 HOUT hpn hpn2
                  go_wp2_with fail
                  refine hheld.mono ?_
                  rintro e w9 ⟨AP, cP, rfl, hH⟩
                  have HS9 := Lib.hid (HS8.out.below hH.base)
                  have HAW := Lib.hid (show AwayV AP (.slice (some ⟨g, 0, none⟩) (M - 1) cp) from fun g' o' e q => by
                    have h1 := row_lt HS8.out.stk g' q
                    subst e
                    have h2 := row_base hH.row g' (by simp [Value.ownBlock])
                    omega)
                  have HRP := Lib.hid (WReads.of_row hH.row)
                  obtain ⟨n, hn⟩ : ∃ n, P.length = n := ⟨_, rfl⟩
                  have HNN := Lib.hid hn
                  have hwrp2 : IntKind.i64.wrap ((n : Int) - 1) = (n : Int) - 1 := by rw [IntKind.wrap_i64]; omega
                  rw [hn] at hpl ⊢
                  clear hheld hH HS8 hn
                  go_wp2_with fail
                  go_loopw [10, 15] (fun vS i wr => ∃ q : Nat, q ≤ n ∧ i = .int .i64 ((n : Int) - 1 - (q : Int)) ∧ Hid (LrRep w wr (m1 ++ [y]) (s0 ++ P.reverse.take q) (.slice A8 (m1.length + 1) c8) vS) ∧ Hid (WReads wr AP P) ∧ Hid (AwayV AP vS)) (fun vS i wr => (intOf i + 1).toNat)
                  case atStart => exact ⟨0, Nat.zero_le _, by simp, by simpa using HS9, HRP, HAW⟩
                  case round =>
                    clear HS9 HRP HAW
                    obtain ⟨q, hq, rfl, hG, hRP, hAW⟩ := hrel
                    by_cases hlt3 : q < n
                    · have hidx : n - 1 - q < P.length := by rw [HNN.out]; omega
                      obtain ⟨b, o', hAP, hc⟩ := hRP.out (n - 1 - q) hidx
                      subst hAP
                      have hnext : s0 ++ P.reverse.take (q + 1) = (s0 ++ P.reverse.take q) ++ [P[n - 1 - q]] := by
                        rw [List.take_succ_eq_append_getElem (by rw [List.length_reverse, HNN.out]; exact hlt3), List.getElem_reverse, List.append_assoc]
                        simp only [HNN.out]
                      have HNX := Lib.hid hnext
                      obtain ⟨K, hK⟩ : ∃ K, (s0 ++ P.reverse.take q).length = K := ⟨_, rfl⟩
                      have hKle : K ≤ 10000000000000 := by rw [← hK]; simp; have := HM.out; have := HNN.out; omega
                      obtain ⟨AS, cS, hvS⟩ := row_slice hG.out.stk
                      rw [hK] at hvS
                      subst hvS
                      have HG := hG
                      have hrow := hG.out.stk
                      rw [hK] at hrow
                      have HROW := Lib.hid hrow
                      have HKK := Lib.hid hK
                      obtain ⟨yv, hyv⟩ : ∃ v, P[n - 1 - q] = v := ⟨_, rfl⟩
                      rw [hyv] at hc HNX
                      have hsw := hG.out.base.size
                      have g5 : decide ((0 : Int) ≤ (n : Int) - 1 - (q : Int)) = true := decide_eq_true (by omega)
                      have e3 : (0 : Int) ≤ (n : Int) - 1 - (q : Int) := by omega
                      have e4 : (n : Int) - 1 - (q : Int) < (n : Int) := by omega
                      have e5 : ((n : Int) - 1 - (q : Int)).toNat = n - 1 - q := by omega
                      have e6 : n - 1 - q < n := by omega
                      have e7 : IntKind.i64.wrap ((n : Int) - 1 - (q : Int) - 1) = (n : Int) - 1 - (q : Int) - 1 := by rw [IntKind.wrap_i64]; omega
                      have hbW : b < wr.heap.size := cell_lt hc
                      obtain ⟨j0, ji, jz0, jz1, jz2⟩ := info_parts word_info
                      clear hG hrow hK hnext hyv hidx
                      go_wp2_with (at_builtin
                                   refine wpList_append_own_at _ rfl (.tmp 89) (.tmp 94) _ rfl w.heap.size 27 j0 (.int .u64 0) 1 8 Tryd.underlying31 ji jz0 jz1 jz2 rfl (by decide) (.slice AS K cS) K (encW (s0 ++ P.reverse.take q)) rfl (HROW.out.alloc _) ⟨wr.heap.size, 0, none⟩ 1 1 [.int .u64 yv] rfl rfl (cell_one_new _ _ _) (by simp [Value.oneCell']) (by unfold maxLen; omega) (by omega) (by rw [World.size_alloc]; omega) ?_
                                   intro v9 w9 hown9 hgrow9 hnil9 hat9)
                      have HW9 := Lib.hid ((hRP.out.below (below_one wr _)).grown hgrow9 hAW.out)
                      have HA9 := Lib.hid (hAW.out.next (n := (wr.alloc (.cells #[.int .u64 yv] 27)).heap.size) (fun g o e => by cases e; rw [World.size_alloc]; omega) hat9)
                      have HS9 : Hid (LrRep w w9 (m1 ++ [y]) (s0 ++ P.reverse.take (q + 1)) (.slice A8 (m1.length + 1) c8) v9) := Lib.hid (by
                        rw [HNX.out]
                        exact HG.out.push (below_one wr _) hgrow9 (by rw [HKK.out]; exact hown9) hat9)
                      clear hown9 hgrow9 hnil9 hat9
                      go_roundw
                      case rel => exact ⟨q + 1, by omega, by first | (congr 1; omega) | (simp; omega), HS9, HW9, HA9⟩
                      case measure => simp [intOf]; omega
                    · obtain rfl : q = n := by omega
                      have e : P.reverse.take q = P.reverse := List.take_of_length_le (by rw [List.length_reverse, HNN.out]; exact Nat.le_refl _)
                      rw [e] at hG
                      obtain ⟨AS, cS, hvS⟩ := row_slice hG.out.stk
                      have hvl2 : _ = s0.length + P.length := (congrArg vLen hvS).trans (by simp [vLen])
                      have g5 : decide ((0 : Int) ≤ (q : Int) - 1 - (q : Int)) = false := decide_eq_false (by omega)
                      have g6 : ¬ (0 : Int) ≤ (q : Int) - 1 - (q : Int) := by omega
                      clear hlt3 hq hvS
                      go_wp2
                      go_roundw
                      case rel => exact ⟨m1 ++ [y], s0 ++ P.reverse, hG, HNW⟩
                      case measure => have := HM.out; have := HNN.out; rw [hvl2]; simp [vLen]; omega
              · have hp : ptrW y = true := by unfold ptrW; rw [k]; rfl
                rw [k] at hkd
                by_cases hmem : y ∈ m1
                · have HN1 := Lib.hid (hN.out.pop HWF.out (.inr hmem))
                  have HDM := Lib.hid (show decide (y ∈ m1) = true from decide_eq_true hmem)
                  clear hS hN hyok hM hs0' hbnd hp k HS1 hmem
                  go_wp2_with fail
                  refine hkd.mono ?_
                  rintro e w6 ⟨rfl, hw6⟩
                  subst hw6
                  go_wp2_with fail
                  refine hplc.mono ?_
                  rintro e w7 ⟨pn, rfl, hpn, hp0, hp1, hb7⟩
                  rw [HDM.out] at hpn
                  have HR7 := Lib.hid (HREL.out.below hb7)
                  clear hplc hb7 hkd
                  go_wp2
                  go_roundw
                  case rel => exact ⟨m1, s0, HR7, HN1⟩
                  case measure => simp [vLen]; omega
                · obtain ⟨hNW, hml1⟩ := hN.out.push HWF.out hp hmem
                  have HNW := Lib.hid hNW
                  have HDM := Lib.hid (show decide (y ∈ m1) = false from decide_eq_false hmem)
                  have hpl := parts_len HWF.out y
                  obtain ⟨P, hP⟩ : ∃ P, partsW L y = P := ⟨_, rfl⟩
                  have HPE := Lib.hid hP
                  rw [hP] at HNW hpl
                  have HYO := Lib.hid hyok
                  clear hS hN hyok hM hs0' hbnd hp k HS1 hmem hNW hP
                  go_wp2_with fail
                  refine hkd.mono ?_
                  rintro e w6 ⟨rfl, hw6⟩
                  subst hw6
                  go_wp2_with fail
                  refine hplc.mono ?_
                  rintro e w7 ⟨pn, rfl, hpn, hp0, hp1, hb7⟩
                  rw [HDM.out] at hpn
                  have hpn2 : ¬ 0 ≤ pn := of_decide_eq_false hpn
                  have HR7 := Lib.hid (HREL.out.below hb7)
                  have HOUT := Lib.hid HR7.out.out
                  have hsz7 := HR7.out.base.size
                  obtain ⟨i0, hi, hz0, hz1, hz2⟩ := info_parts word_info
                  clear hplc hb7 hkd HREL
                  go_wp2_with (at_builtin
                               refine wpList_append_own_at _ rfl (.tmp 75) (.tmp 77) _ rfl w.heap.size 27 i0 (.int .u64 0) 1 8 Tryd.underlying31 hi hz0 hz1 hz2 rfl (by decide) (.slice AM m1.length cM) m1.length (encW m1) rfl (HOUT.out.alloc _) ⟨w7.heap.size, 0, none⟩ 1 1 [.int .u64 y] rfl rfl (cell_one_new _ _ _) (by simp [Value.oneCell']) (by unfold maxLen; omega) (by omega) (by rw [World.size_alloc]; omega) ?_
                               intro v8 w8 hown8 hgrow8 hnil8 hat8)
                  have HS8 := Lib.hid (HR7.out.more (below_one w7 _) hgrow8 hown8 hat8)
                  obtain ⟨A8, c8, hv8⟩ := row_slice HS8.out.out
                  rw [List.length_append, List.length_singleton] at hv8
                  subst hv8
                  have hheld := holds_any w8 O ba room L y (HA.out.below HS8.out.base) HYO.out.2.1 HYO.out.2.2
                  rw [HPE.out] at hheld
                  clear hown8 hgrow8 hnil8 hat8 HR7 HOUT hpn hpn2
                  go_wp2_with fail
                  refine hheld.mono ?_
                  rintro e w9 ⟨AP, cP, rfl, hH⟩
                  have HS9 := Lib.hid (HS8.out.below hH.base)
                  have HAW := Lib.hid (show AwayV AP (.slice (some ⟨g, 0, none⟩) (M - 1) cp) from fun g' o' e q => by
                    have h1 := row_lt HS8.out.stk g' q
                    subst e
                    have h2 := row_base hH.row g' (by simp [Value.ownBlock])
                    omega)
                  have HRP := Lib.hid (WReads.of_row hH.row)
                  obtain ⟨n, hn⟩ : ∃ n, P.length = n := ⟨_, rfl⟩
                  have HNN := Lib.hid hn
                  have hwrp2 : IntKind.i64.wrap ((n : Int) - 1) = (n : Int) - 1 := by rw [IntKind.wrap_i64]; omega
                  rw [hn] at hpl ⊢
                  clear hheld hH HS8 hn
                  go_wp2_with fail
                  go_loopw [10, 15] (fun vS i wr => ∃ q : Nat, q ≤ n ∧ i = .int .i64 ((n : Int) - 1 - (q : Int)) ∧ Hid (LrRep w wr (m1 ++ [y]) (s0 ++ P.reverse.take q) (.slice A8 (m1.length + 1) c8) vS) ∧ Hid (WReads wr AP P) ∧ Hid (AwayV AP vS)) (fun vS i wr => (intOf i + 1).toNat)
                  case atStart => exact ⟨0, Nat.zero_le _, by simp, by simpa using HS9, HRP, HAW⟩
                  case round =>
                    clear HS9 HRP HAW
                    obtain ⟨q, hq, rfl, hG, hRP, hAW⟩ := hrel
                    by_cases hlt3 : q < n
                    · have hidx : n - 1 - q < P.length := by rw [HNN.out]; omega
                      obtain ⟨b, o', hAP, hc⟩ := hRP.out (n - 1 - q) hidx
                      subst hAP
                      have hnext : s0 ++ P.reverse.take (q + 1) = (s0 ++ P.reverse.take q) ++ [P[n - 1 - q]] := by
                        rw [List.take_succ_eq_append_getElem (by rw [List.length_reverse, HNN.out]; exact hlt3), List.getElem_reverse, List.append_assoc]
                        simp only [HNN.out]
                      have HNX := Lib.hid hnext
                      obtain ⟨K, hK⟩ : ∃ K, (s0 ++ P.reverse.take q).length = K := ⟨_, rfl⟩
                      have hKle : K ≤ 10000000000000 := by rw [← hK]; simp; have := HM.out; have := HNN.out; omega
                      obtain ⟨AS, cS, hvS⟩ := row_slice hG.out.stk
                      rw [hK] at hvS
                      subst hvS
                      have HG := hG
                      have hrow := hG.out.stk
                      rw [hK] at hrow
                      have HROW := Lib.hid hrow
                      have HKK := Lib.hid hK
                      obtain ⟨yv, hyv⟩ : ∃ v, P[n - 1 - q] = v := ⟨_, rfl⟩
                      rw [hyv] at hc HNX
                      have hsw := hG.out.base.size
                      have g5 : decide ((0 : Int) ≤ (n : Int) - 1 - (q : Int)) = true := decide_eq_true (by omega)
                      have e3 : (0 : Int) ≤ (n : Int) - 1 - (q : Int) := by omega
                      have e4 : (n : Int) - 1 - (q : Int) < (n : Int) := by omega
                      have e5 : ((n : Int) - 1 - (q : Int)).toNat = n - 1 - q := by omega
                      have e6 : n - 1 - q < n := by omega
                      have e7 : IntKind.i64.wrap ((n : Int) - 1 - (q : Int) - 1) = (n : Int) - 1 - (q : Int) - 1 := by rw [IntKind.wrap_i64]; omega
                      have hbW : b < wr.heap.size := cell_lt hc
                      obtain ⟨j0, ji, jz0, jz1, jz2⟩ := info_parts word_info
                      clear hG hrow hK hnext hyv hidx
                      go_wp2_with (at_builtin
                                   refine wpList_append_own_at _ rfl (.tmp 89) (.tmp 94) _ rfl w.heap.size 27 j0 (.int .u64 0) 1 8 Tryd.underlying31 ji jz0 jz1 jz2 rfl (by decide) (.slice AS K cS) K (encW (s0 ++ P.reverse.take q)) rfl (HROW.out.alloc _) ⟨wr.heap.size, 0, none⟩ 1 1 [.int .u64 yv] rfl rfl (cell_one_new _ _ _) (by simp [Value.oneCell']) (by unfold maxLen; omega) (by omega) (by rw [World.size_alloc]; omega) ?_
                                   intro v9 w9 hown9 hgrow9 hnil9 hat9)
                      have HW9 := Lib.hid ((hRP.out.below (below_one wr _)).grown hgrow9 hAW.out)
                      have HA9 := Lib.hid (hAW.out.next (n := (wr.alloc (.cells #[.int .u64 yv] 27)).heap.size) (fun g o e => by cases e; rw [World.size_alloc]; omega) hat9)
                      have HS9 : Hid (LrRep w w9 (m1 ++ [y]) (s0 ++ P.reverse.take (q + 1)) (.slice A8 (m1.length + 1) c8) v9) := Lib.hid (by
                        rw [HNX.out]
                        exact HG.out.push (below_one wr _) hgrow9 (by rw [HKK.out]; exact hown9) hat9)
                      clear hown9 hgrow9 hnil9 hat9
                      go_roundw
                      case rel => exact ⟨q + 1, by omega, by first | (congr 1; omega) | (simp; omega), HS9, HW9, HA9⟩
                      case measure => simp [intOf]; omega
                    · obtain rfl : q = n := by omega
                      have e : P.reverse.take q = P.reverse := List.take_of_length_le (by rw [List.length_reverse, HNN.out]; exact Nat.le_refl _)
                      rw [e] at hG
                      obtain ⟨AS, cS, hvS⟩ := row_slice hG.out.stk
                      have hvl2 : _ = s0.length + P.length := (congrArg vLen hvS).trans (by simp [vLen])
                      have g5 : decide ((0 : Int) ≤ (q : Int) - 1 - (q : Int)) = false := decide_eq_false (by omega)
                      have g6 : ¬ (0 : Int) ≤ (q : Int) - 1 - (q : Int) := by omega
                      clear hlt3 hq hvS
                      go_wp2
                      go_roundw
                      case rel => exact ⟨m1 ++ [y], s0 ++ P.reverse, hG, HNW⟩
                      case measure => have := HM.out; have := HNN.out; rw [hvl2]; simp [vLen]; omega
              · have hp : ptrW y = false := by unfold ptrW; rw [k]; rfl
                have HN1 := Lib.hid (hN.out.pop HWF.out (.inl hp))
                rw [k] at hkd
                clear hS hN hyok hM hs0' hbnd hplc hp k HS1
                go_wp2_with fail
                refine hkd.mono ?_
                rintro e w6 ⟨rfl, hw6⟩
                subst hw6
                go_wp2
                go_roundw
                case rel => exact ⟨m1, s0, HREL, HN1⟩
                case measure => simp [vLen]; omega
end Go.Proofs.YthgnihckeckaiaaDoor.Tm
