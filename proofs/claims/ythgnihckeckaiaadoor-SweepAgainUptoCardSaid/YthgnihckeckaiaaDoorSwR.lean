/- Sweep's reached. -/
import Derived.Test.YthgnihckeckaiaaDoorSwM
namespace Go.Proofs.YthgnihckeckaiaaDoor.Tm
open Go.RowKit
set_option linter.unusedVariables false
set_option linter.unusedSimpArgs false

def rootE (L : List ObjA) (roots : List Int) : Int := if allFind L roots = true then 0 else 31
def rchX (L : List ObjA) (roots : List Int) : List Int := if allFind L roots = true then rchW L roots else []
def vLen : Value → Nat
  | .slice _ n _ => n
  | _ => 0
/-- Where the run of one root stands. -/
structure SwNow (L : List ObjA) (T m sB : List Int) : Prop where
  met : MetOk L m
  ok : ∀ p ∈ sB, FindOk L p
  res : sB.reverse.foldl (preW L) m = T
  bnd : sB.length + 256 * (L.length - m.length) ≤ 1 + 256 * L.length
theorem SwNow.start {L : List ObjA} {m : List Int} {x : Int} (h : MetOk L m) (hx : FindOk L x) : SwNow L (preW L m x) m [x] :=
  ⟨h, fun p hp => by rw [List.mem_singleton.1 hp]; exact hx, rfl, by simp; omega⟩
theorem SwNow.pop {L : List ObjA} (hw : WfA L) {T m sB : List Int} {y : Int} (h : SwNow L T m (sB ++ [y])) (hs : ptrW y = false ∨ y ∈ m) : SwNow L T m sB := by
  refine ⟨h.met, fun p hp => h.ok p (by simp [hp]), ?_, ?_⟩
  · have := h.res
    rw [List.reverse_append, List.reverse_singleton, List.singleton_append, pre_pop hw _ hs] at this
    exact this
  · have := h.bnd
    rw [List.length_append, List.length_singleton] at this
    omega
theorem SwNow.push {L : List ObjA} (hw : WfA L) {T m sB : List Int} {y : Int} (h : SwNow L T m (sB ++ [y])) (hp : ptrW y = true) (hn : y ∉ m) : SwNow L T (m ++ [y]) (sB ++ (partsW L y).reverse) ∧ m.length + 1 ≤ L.length := by
  have hm := h.met.add (h.ok y (by simp)) hp hn
  have hl := hm.len
  rw [List.length_append, List.length_singleton] at hl
  refine ⟨⟨hm, fun p hq => ?_, ?_, ?_⟩, hl⟩
  · rcases List.mem_append.1 hq with hq | hq
    · exact h.ok p (by simp [hq])
    · exact (parts_rank hw (List.mem_reverse.1 hq)).1
  · have := h.res
    rw [List.reverse_append, List.reverse_singleton, List.singleton_append, pre_push hw _ hp hn] at this
    rw [List.reverse_append, List.reverse_reverse]
    exact this
  · have h1 := h.bnd
    have h2 := parts_len hw y
    rw [List.length_append, List.length_singleton] at h1
    rw [List.length_append, List.length_append, List.length_reverse, List.length_singleton]
    omega
theorem SwNow.end_ {L : List ObjA} {T m : List Int} (h : SwNow L T m []) : m = T := h.res
set_option maxRecDepth 10000 in
set_option maxHeartbeats 8000000 in
theorem reached_any (w : World) (O : Nat → Prop) (ba room : Nat) (L : List ObjA) (roots : List Int) (A : Option Addr) (cap : Nat) (hA : ArAt w O ba room L) (hr : WReads w A roots) (hx : ∀ x ∈ roots, 0 ≤ x ∧ x < 18446744073709551616) (hlen : roots.length ≤ 1000000000000000000) :
    Calls Tryd.prog 93 #[.pointer (some ⟨ba, 0, none⟩), .slice A roots.length cap] w fun e w' => ∃ A' c', e = .returned (.tuple #[.slice A' (rchX L roots).length c', .int .i64 (rootE L roots)]) ∧ w'.ownsRow w.heap.size 27 1 (.slice A' (rchX L roots).length c') (rchX L roots).length (encW (rchX L roots)) ∧ Below w.heap.size w w' := by
  have hwf := hA.wf
  have hlims := hA.lims
  have hll := hwf.len
  have HA := Lib.hid hA
  have HR := Lib.hid hr
  have HX := Lib.hid hx
  have HWF := Lib.hid hwf
  clear hA hr hx hwf
  go_enter Tryd.func93, Tryd.ntmps93
  go_wp2_with fail
  go_loopw [22] (fun i wr => ∃ j : Nat, j ≤ roots.length ∧ i = .int .i64 (j : Int) ∧ Hid (Below w.heap.size w wr) ∧ Hid (∀ q (h : q < roots.length), q < j → (findA L roots[q]).isSome = true)) (fun i wr => roots.length - (intOf i).toNat)
  case atStart => exact ⟨0, Nat.zero_le _, rfl, Lib.hid (Below.refl _ _), Lib.hid (fun q _ h => absurd h (Nat.not_lt_zero q))⟩
  case round =>
    obtain ⟨j, hj, rfl, hB, hF⟩ := hrel
    by_cases hlt : j < roots.length
    · obtain ⟨g, o, rfl, q0⟩ := (HR.out.below hB.out) j hlt
      have hxr := HX.out roots[j] (List.getElem_mem hlt)
      have hj1 : (j : Int) < (roots.length : Int) := by omega
      have hj0 : (0 : Int) ≤ (j : Int) := Int.natCast_nonneg _
      have hbl : decide ((j : Int) < (roots.length : Int)) = true := decide_eq_true hj1
      obtain ⟨x, hxe⟩ : ∃ x, roots[j] = x := ⟨_, rfl⟩
      rw [hxe] at q0 hxr
      have hce := acell_any wr O ba room L x hxr.1 hxr.2 (HA.out.below hB.out)
      have hse := seen_is (L := L) x
      obtain ⟨cc, hcc⟩ : ∃ c, cellS (seenA L x) = c := ⟨_, rfl⟩
      rw [hcc] at hce
      simp only [CellD.agg] at hce
      have HXE := Lib.hid hxe
      clear hxe hcc
      cases hf : (findA L x).isSome with
      | true =>
        have he0 : errS (seenA L x) = 0 := by
          rw [hf] at hse
          cases hs : seenA L x with
          | none => rw [hs] at hse; cases hse
          | some r => rfl
        rw [he0] at hce
        have HNF := Lib.hid (show ∀ q (h : q < roots.length), q < j + 1 → (findA L roots[q]).isSome = true from fun q hq hqj => by
          by_cases e : q = j
          · subst e
            rw [HXE.out]
            exact hf
          · exact hF.out q hq (by omega))
        clear hf hF hse he0
        go_wp2_with fail
        refine hce.mono ?_
        rintro e w2 ⟨rfl, hb2⟩
        have HB2 := Lib.hid (below_alloc' (below_then hB.out hb2) (.cells #[.int .i64 cc.kind, .int .i64 cc.n, .string cc.text] 40))
        clear hb2 hce q0
        go_wp2
        go_roundw
        case rel => exact ⟨j + 1, by omega, by go_num, HB2, HNF⟩
        case measure => simp [intOf]; omega
      | false =>
        have he1 : errS (seenA L x) = 31 := by
          rw [hf] at hse
          cases hs : seenA L x with
          | none => rfl
          | some r => rw [hs] at hse; cases hse
        rw [he1] at hce
        have hbad : allFind L roots = false := allFind_bad hlt (by
          rw [HXE.out]
          cases h : findA L x with
          | none => rfl
          | some k => rw [h] at hf; cases hf)
        have HE := Lib.hid (⟨by unfold rootE; rw [hbad]; rfl, by unfold rchX; rw [hbad]; rfl⟩ : rootE L roots = 31 ∧ rchX L roots = [])
        clear hf hF hbad hse he1
        go_wp2_with fail
        refine hce.mono ?_
        rintro e w2 ⟨rfl, hb2⟩
        have HB2 := Lib.hid (below_alloc' (below_then hB.out hb2) (.cells #[.int .i64 cc.kind, .int .i64 cc.n, .string cc.text] 40))
        clear hb2 hce q0
        go_wp2
        go_ret2
        rw [HE.out.1, HE.out.2]
        exact ⟨none, 0, rfl, row_nil _ _ _ _, HB2.out⟩
    · have hbl : decide ((j : Int) < (roots.length : Int)) = false := decide_eq_false (by omega)
      have hall : allFind L roots = true := allFind_all fun q hq => hF.out q hq (by omega)
      have hxok : ∀ x ∈ roots, FindOk L x := fun x hx => by
        obtain ⟨q, hq, rfl⟩ := List.mem_iff_getElem.1 hx
        exact ⟨hF.out q hq (by omega), HX.out _ hx⟩
      have HE := Lib.hid (⟨by unfold rootE; rw [if_pos hall], by unfold rchX; rw [if_pos hall]⟩ : rootE L roots = 0 ∧ rchX L roots = rchW L roots)
      have HOK := Lib.hid hxok
      have HB0 := hB
      obtain ⟨wo, hwo⟩ : ∃ W, W = wr := ⟨_, rfl⟩
      subst hwo
      have HS0 := Lib.hid (show SwRep w (wo.alloc (.map #[] 0)) wo.heap.size [] [] [] (.slice none 0 0) (.slice none 0 0) from ⟨below_alloc' hB.out _, hB.out.size, heap_new wo _, row_nil _ _ _ _, row_nil _ _ _ _, fun k hk => by simp [Value.ownBlock] at hk, by simp [Value.ownBlock], by simp [Value.ownBlock]⟩)
      have hbm := hB.out.size
      obtain ⟨bm, hbmE⟩ : ∃ b, wo.heap.size = b := ⟨_, rfl⟩
      rw [hbmE] at HS0 hbm
      have HBM := Lib.hid hbmE
      have hmm := @run_makeMap Tryd.prog
      clear hF hall hxok hB
      go_wp2_with fail
      try rw [HBM.out]
      clear hbmE
      go_loopw [11, 12, 38] (fun vM vS i wr => ∃ (j : Nat) (m : List Int), j ≤ roots.length ∧ i = .int .i64 (j : Int) ∧ Hid (SwRep w wr bm m m [] vM vS) ∧ Hid (MetOk L m ∧ (roots.drop j).foldl (preW L) m = rchW L roots)) (fun vM vS i wr => roots.length - (intOf i).toNat)
      case atStart => exact ⟨0, [], Nat.zero_le _, rfl, HS0, Lib.hid ⟨MetOk.nil L, rfl⟩⟩
      case round =>
        clear hlt hbl hj HS0
        obtain ⟨j, m, hj, rfl, hS, hM⟩ := hrel
        obtain ⟨AM, cM, hvM⟩ := row_slice hS.out.out
        subst hvM
        obtain ⟨AS, cS, hvS⟩ := row_slice hS.out.stk
        rw [List.length_nil] at hvS
        subst hvS
        by_cases hlt : j < roots.length
        · obtain ⟨g, o, rfl, q0⟩ := (HR.out.below hS.out.base) j hlt
          have hj1 : (j : Int) < (roots.length : Int) := by omega
          have hj0 : (0 : Int) ≤ (j : Int) := Int.natCast_nonneg _
          have hbl : decide ((j : Int) < (roots.length : Int)) = true := decide_eq_true hj1
          have hDR := List.drop_eq_getElem_cons hlt
          have hxo := HOK.out _ (List.getElem_mem hlt)
          obtain ⟨x, hxe⟩ : ∃ x, roots[j] = x := ⟨_, rfl⟩
          rw [hxe] at q0 hxo hDR
          have hres := hM.out.2
          rw [hDR, List.foldl_cons] at hres
          have HRES := Lib.hid hres
          have HNW := Lib.hid (SwNow.start hM.out.1 hxo)
          have hszr := hS.out.base.size
          have HSTK := Lib.hid hS.out.stk
          obtain ⟨i0, hi, hz0, hz1, hz2⟩ := info_parts word_info
          clear hxe hDR hres hxo
          go_wp2_with (at_builtin
                       refine wpList_append_own_at _ rfl (.tmp 42) (.tmp 44) _ rfl w.heap.size 27 i0 (.int .u64 0) 1 8 Tryd.underlying31 hi hz0 hz1 hz2 rfl (by decide) (.slice AS 0 cS) 0 (encW []) rfl (HSTK.out.alloc _) ⟨wr.heap.size, 0, none⟩ 1 1 [.int .u64 x] rfl rfl (cell_one_new _ _ _) (by simp [Value.oneCell']) (by unfold maxLen; omega) (by omega) (by rw [World.size_alloc]; omega) ?_
                       intro v5 w5 hown5 hgrow5 hnil5 hat5)
          have HS5 := Lib.hid (hS.out.push (below_one wr _) hgrow5 hown5 hat5)
          clear hown5 hgrow5 hnil5 hat5
          have hxe0 : (0 : Nat) + 1 = 1 := rfl
          obtain ⟨T, hT⟩ : ∃ T, preW L m x = T := ⟨_, rfl⟩
          rw [hT] at HRES HNW
          clear hT hS hM q0 HSTK
          go_loopw [11, 12] (fun vM vS wr => ∃ (m1 sB : List Int), Hid (SwRep w wr bm m1 m1 sB vM vS) ∧ Hid (SwNow L T m1 sB)) (fun vM vS wr => vLen vS + 300 * (L.length - vLen vM))
          case atStart => exact ⟨m, [x], HS5, HNW⟩
          case round =>
            clear HS5 HNW hszr
            obtain ⟨m1, sB, hS, hN⟩ := hrel
            obtain ⟨AM, cM, hvM⟩ := row_slice hS.out.out
            subst hvM
            rcases List.eq_nil_or_concat sB with rfl | ⟨s0, y, rfl⟩
            · obtain ⟨AS, cS, hvS⟩ := row_slice hS.out.stk
              rw [List.length_nil] at hvS
              subst hvS
              have HEND := Lib.hid hN.out.end_
              have HMT := Lib.hid hN.out.met
              go_wp2
              go_roundw
              case rel => exact ⟨j + 1, m1, by omega, by go_num, hS, Lib.hid ⟨HMT.out, by rw [HEND.out]; exact HRES.out⟩⟩
              case measure => simp [intOf]; omega
            · rw [List.concat_eq_append] at hS hN
              obtain ⟨g, cp, rfl, hcp, q0⟩ := hS.out.last
              have hyok := hN.out.ok y (by simp)
              have hbnd := hN.out.bnd
              rw [List.length_append, List.length_singleton] at hbnd
              have hml := hN.out.met.len
              have hst := stands_any y wr hyok.2.1 hyok.2.2
              obtain ⟨M, hM⟩ : ∃ M, s0.length + 1 = M := ⟨_, rfl⟩
              have hs0' : s0.length = M - 1 := by omega
              rw [hs0'] at q0
              have HM := Lib.hid hM
              have g1 : decide ((0 : Int) < (M : Int)) = true := decide_eq_true (by omega)
              have g2 : 0 < M := by omega
              have w3 : IntKind.i64.wrap ((M : Int) - 1) = (M : Int) - 1 := by rw [IntKind.wrap_i64]; omega
              have b2 : (0 : Int) ≤ (M : Int) - 1 := by omega
              have b2' : (1 : Int) ≤ (M : Int) := by omega
              have d2 : (M : Int) - 1 < (M : Int) := by omega
              have t2 : ((M : Int) - 1).toNat = M - 1 := by omega
              have d3 : M - 1 < M := by omega
              have hcp' : M ≤ cp := by omega
              have HS1 := Lib.hid hS.out.pop
              have hvl : vLen (.slice (some ⟨g, 0, none⟩) (s0.length + 1) cp) = M := hM
              rw [hM]
              have HMAP := Lib.hid hS.out.map
              have hszr := hS.out.base.size
              by_cases hskip : ptrW y = false ∨ y ∈ m1
              · have HN1 := Lib.hid (hN.out.pop HWF.out hskip)
                have HREL := Lib.hid (show Hid (SwRep w wr bm m1 m1 s0 (.slice AM m1.length cM) (.slice (some ⟨g, 0, none⟩) (M - 1) cp)) from Lib.hid (by have h := HS1.out; rw [hs0'] at h; exact h))
                cases hp : ptrW y with
                | false =>
                  rw [hp] at hst
                  clear hskip hp hS hN hyok hM hs0' hbnd hvl
                  go_wp2_with fail
                  refine hst.mono ?_
                  rintro e w6 ⟨rfl, hw6⟩
                  subst hw6
                  go_wp2
                  go_roundw
                  case rel => exact ⟨m1, s0, HREL.out, HN1⟩
                  case measure => simp [vLen]; omega
                | true =>
                  rw [hp] at hst
                  have hmem : y ∈ m1 := by
                    rcases hskip with h | h
                    · rw [hp] at h; cases h
                    · exact h
                  have hmet := (run_met wr bm m1 y HMAP.out).1 hmem
                  clear hskip hp hS hN hyok hM hs0' hbnd hvl hmem
                  go_wp2_with fail
                  refine hst.mono ?_
                  rintro e w6 ⟨rfl, hw6⟩
                  subst hw6
                  go_wp2
                  go_roundw
                  case rel => exact ⟨m1, s0, HREL.out, HN1⟩
                  case measure => simp [vLen]; omega
              · have hp : ptrW y = true := by cases hp : ptrW y <;> simp_all
                have hny : y ∉ m1 := fun h => hskip (.inr h)
                rw [hp] at hst
                obtain ⟨hNW, hml1⟩ := hN.out.push HWF.out hp hny
                have hmet := (run_met wr bm m1 y HMAP.out).2 hny
                obtain ⟨w6, hup, hm6, hg6⟩ := run_meet wr bm m1 y HMAP.out hny
                have HS2 : Hid (SwRep w wr bm m1 m1 s0 (.slice AM m1.length cM) (.slice (some ⟨g, 0, none⟩) (M - 1) cp)) := Lib.hid (by have h := HS1.out; rw [hs0'] at h; exact h)
                have HS6 := Lib.hid (HS2.out.meet hm6 hg6)
                have HNW := Lib.hid hNW
                have hpl := parts_len HWF.out y
                obtain ⟨P, hP⟩ : ∃ P, partsW L y = P := ⟨_, rfl⟩
                have HPE := Lib.hid hP
                rw [hP] at HNW hpl
                have HYO := Lib.hid hyok
                have HOUT := Lib.hid HS6.out.out
                have hsz6 := HS6.out.base.size
                obtain ⟨i0, hi, hz0, hz1, hz2⟩ := info_parts word_info
                clear hskip hp hS hN hyok hM hny hm6 hg6 hNW HS1 HS2 HMAP hP
                go_wp2_with fail
                refine hst.mono ?_
                rintro e w6' ⟨rfl, hw6⟩
                subst hw6
                clear hst
                go_wp2_with (at_builtin
                             refine wpList_append_own_at _ rfl (.tmp 70) (.tmp 72) _ rfl w.heap.size 27 i0 (.int .u64 0) 1 8 Tryd.underlying31 hi hz0 hz1 hz2 rfl (by decide) (.slice AM m1.length cM) m1.length (encW m1) rfl (HOUT.out.alloc _) ⟨w6.heap.size, 0, none⟩ 1 1 [.int .u64 y] rfl rfl (cell_one_new _ _ _) (by simp [Value.oneCell']) (by unfold maxLen; omega) (by omega) (by rw [World.size_alloc]; omega) ?_
                             intro v7 w7 hown7 hgrow7 hnil7 hat7)
                have HS7 := Lib.hid (HS6.out.more (below_one w6 _) hgrow7 hown7 hat7)
                obtain ⟨A7, c7, hv7⟩ := row_slice HS7.out.out
                rw [List.length_append, List.length_singleton] at hv7
                subst hv7
                have hheld := sheld_any w7 O ba room L y (HA.out.below HS7.out.base) HYO.out.2.1 HYO.out.2.2
                rw [HPE.out] at hheld
                clear hown7 hgrow7 hnil7 hat7 HS6 HOUT hup hmet
                go_wp2_with fail
                refine hheld.mono ?_
                rintro e w8 ⟨AP, cP, rfl, hH⟩
                have HS8 := Lib.hid (HS7.out.below hH.base)
                have HAW := Lib.hid (show AwayV AP (.slice (some ⟨g, 0, none⟩) (M - 1) cp) from fun g' o' e q => by
                  have h1 := row_lt HS7.out.stk g' q
                  subst e
                  have h2 := row_base hH.row g' (by simp [Value.ownBlock])
                  omega)
                have HRP := Lib.hid (WReads.of_row hH.row)
                clear hheld hH HS7
                go_wp2_with fail
                go_loopw [12, 79] (fun vS i wr => ∃ q : Nat, q ≤ P.length ∧ i = .int .i64 (q : Int) ∧ Hid (SwRep w wr bm (m1 ++ [y]) (m1 ++ [y]) (s0 ++ P.reverse.take q) (.slice A7 (m1.length + 1) c7) vS) ∧ Hid (WReads wr AP P) ∧ Hid (AwayV AP vS)) (fun vS i wr => P.length - (intOf i).toNat)
                case atStart => exact ⟨0, Nat.zero_le _, rfl, by simpa using HS8, HRP, HAW⟩
                case round =>
                  clear HS8 HRP HAW
                  obtain ⟨q, hq, rfl, hG, hRP, hAW⟩ := hrel
                  by_cases hlt3 : q < P.length
                  · have hidx : P.length - 1 - q < P.length := by omega
                    obtain ⟨b, o', hAP, hc⟩ := hRP.out (P.length - 1 - q) hidx
                    subst hAP
                    have hnext : s0 ++ P.reverse.take (q + 1) = (s0 ++ P.reverse.take q) ++ [P[P.length - 1 - q]] := by
                      rw [List.take_succ_eq_append_getElem (by simpa using hlt3), List.getElem_reverse, List.append_assoc]
                    have HNX := Lib.hid hnext
                    obtain ⟨K, hK⟩ : ∃ K, (s0 ++ P.reverse.take q).length = K := ⟨_, rfl⟩
                    have hKle : K ≤ 100000000 := by rw [← hK]; simp; omega
                    obtain ⟨AS, cS, hvS⟩ := row_slice hG.out.stk
                    rw [hK] at hvS
                    subst hvS
                    have HG := hG
                    have hrow := hG.out.stk
                    rw [hK] at hrow
                    have HROW := Lib.hid hrow
                    have HKK := Lib.hid hK
                    obtain ⟨yv, hyv⟩ : ∃ v, P[P.length - 1 - q] = v := ⟨_, rfl⟩
                    rw [hyv] at hc HNX
                    obtain ⟨n, hn⟩ : ∃ n, P.length = n := ⟨_, rfl⟩
                    have hsw := hG.out.base.size
                    have e1 : IntKind.i64.wrap ((n : Int) - 1) = (n : Int) - 1 := by rw [IntKind.wrap_i64]; omega
                    have e2 : IntKind.i64.wrap ((n : Int) - 1 - (q : Int)) = (n : Int) - 1 - (q : Int) := by rw [IntKind.wrap_i64]; omega
                    have e3 : (0 : Int) ≤ (n : Int) - 1 - (q : Int) := by omega
                    have e4 : (n : Int) - 1 - (q : Int) < (n : Int) := by omega
                    have e5 : ((n : Int) - 1 - (q : Int)).toNat = n - 1 - q := by omega
                    have e6 : n - 1 - q < n := by omega
                    have hlt4 : decide ((q : Int) < (n : Int)) = true := decide_eq_true (by omega)
                    have hbW : b < wr.heap.size := cell_lt hc
                    have HNN := Lib.hid hn
                    rw [hn] at hc ⊢
                    obtain ⟨j0, ji, jz0, jz1, jz2⟩ := info_parts word_info
                    clear hG hrow hK hnext hyv hn hidx
                    go_wp2_with (at_builtin
                                 refine wpList_append_own_at _ rfl (.tmp 82) (.tmp 91) _ rfl w.heap.size 27 j0 (.int .u64 0) 1 8 Tryd.underlying31 ji jz0 jz1 jz2 rfl (by decide) (.slice AS K cS) K (encW (s0 ++ P.reverse.take q)) rfl (HROW.out.alloc _) ⟨wr.heap.size, 0, none⟩ 1 1 [.int .u64 yv] rfl rfl (cell_one_new _ _ _) (by simp [Value.oneCell']) (by unfold maxLen; omega) (by omega) (by rw [World.size_alloc]; omega) ?_
                                 intro v9 w9 hown9 hgrow9 hnil9 hat9)
                    have hgr2 := hgrow9
                    have HW9 := Lib.hid ((hRP.out.below (below_one wr _)).grown hgrow9 hAW.out)
                    have HA9 := Lib.hid (hAW.out.next (n := (wr.alloc (.cells #[.int .u64 yv] 27)).heap.size) (fun g o e => by cases e; rw [World.size_alloc]; omega) hat9)
                    have HS9 : Hid (SwRep w w9 bm (m1 ++ [y]) (m1 ++ [y]) (s0 ++ P.reverse.take (q + 1)) (.slice A7 (m1.length + 1) c7) v9) := Lib.hid (by
                      rw [HNX.out]
                      exact HG.out.push (below_one wr _) hgrow9 (by rw [HKK.out]; exact hown9) hat9)
                    clear hown9 hgrow9 hnil9 hat9 hgr2
                    go_roundw
                    case rel => exact ⟨q + 1, by have := HNN.out; omega, by go_num, HS9, HW9, HA9⟩
                    case measure => have := HNN.out; simp [intOf]; omega
                  · obtain rfl : q = P.length := by omega
                    have e : P.reverse.take P.length = P.reverse := List.take_of_length_le (by simp)
                    rw [e] at hG
                    obtain ⟨AS, cS, hvS⟩ := row_slice hG.out.stk
                    have hvl2 : _ = s0.length + P.length := (congrArg vLen hvS).trans (by simp [vLen])
                    have hbl3 : decide ((P.length : Int) < (P.length : Int)) = false := decide_eq_false (by omega)
                    clear hlt3 hq hvS
                    go_wp2
                    go_roundw
                    case rel => exact ⟨m1 ++ [y], s0 ++ P.reverse, hG, HNW⟩
                    case measure => rw [hvl2]; simp [vLen]; omega
        · obtain rfl : j = roots.length := by omega
          have hres := hM.out.2
          rw [List.drop_length] at hres
          have hres : m = rchW L roots := hres
          have HRES := Lib.hid hres
          have hbl : decide ((roots.length : Int) < (roots.length : Int)) = false := decide_eq_false (by omega)
          clear hres hlt hj
          go_wp2
          go_ret2
          rw [HE.out.1, HE.out.2, ← HRES.out]
          exact ⟨AM, cM, rfl, hS.out.out, hS.out.base⟩
end Go.Proofs.YthgnihckeckaiaaDoor.Tm
