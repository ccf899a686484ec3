/- Sweep's law: made. -/
import Derived.Test.YthgnihckeckaiaaDoorSwF
import Derived.Test.YthgnihckeckaiaaDoorDpA
import Derived.Maps.AppendAt
import Derived.Deep.RegionHeld3
import Derived.Deep.DeepCutAuto
namespace Go.Proofs.YthgnihckeckaiaaDoor.Tm
open Go.RowKit Go.Shelf
set_option linter.unusedVariables false
set_option linter.unusedSimpArgs false

/-- An arena as it is made. -/
structure SMk (w : World) (ba : Nat) (O : Nat → Prop) (L : List ObjA) (W : World) : Prop where
  ar : ArAt W O ba 20000 L
  cells : ∀ o ∈ L, WfC o.cell
  own : ∀ k, O k → w.heap.size ≤ k
  base : Below w.heap.size w W
theorem SMk.below {w : World} {ba : Nat} {O : Nat → Prop} {L : List ObjA} {W V : World} (h : SMk w ba O L W) (hB : Below W.heap.size W V) : SMk w ba O L V := ⟨h.ar.below hB, h.cells, h.own, below_then h.base hB⟩
theorem SMk.made {w : World} {ba : Nat} {O : Nat → Prop} {L L' : List ObjA} {W V : World} (h : SMk w ba O L W) (hM : Made W V O ba 20000 L') (hc : ∀ o ∈ L', WfC o.cell) : ∃ O', SMk w ba O' L' V := by
  obtain ⟨O', a1, a2, a3, a4⟩ := hM
  have hs := h.base.size
  refine ⟨O', a1, hc, fun k hk => ?_, h.base.trans (a4.below hs h.own)⟩
  rcases a3 k hk with q | q
  · exact h.own k q
  · omega
theorem smk_tuple (w W : World) (O : Nat → Prop) (ba : Nat) (L : List ObjA) (ps : List Int) (A : Option Addr) (cap : Nat) (hP : SMk w ba O L W) (hT : TabsA W) (hrd : WReads W A ps) (hx : ∀ p ∈ ps, FindOk L p) :
    Calls Tryd.prog 47 #[.pointer (some ⟨ba, 0, none⟩), .slice A ps.length cap] W fun e w' => ∃ x er O' L', e = .returned (.tuple #[.int .u64 x, .int .i64 er]) ∧ SMk w ba O' L' w' := by
  have hu := hP.ar.lims.2
  by_cases hk : ps.length ≤ 255
  · obtain ⟨k1, k2, k3⟩ := tupA_ok hk
    refine (tuple_any W O ba 20000 L ps A cap hP.ar hT hrd hk (fun p hp => (hx p hp).2)).mono ?_
    rintro e w' ⟨rfl, hM⟩
    have H := hold_ok (room := 20000) (L := L) (c := tupA ps.length) (ys := ps) hP.ar.wf k1 k3 (by omega) hu
    obtain ⟨O', h⟩ := hP.made hM (H.cells hP.cells)
    exact ⟨_, _, O', _, rfl, h⟩
  · refine (tuple_big W O ba 20000 L A ps.length cap hP.ar (by omega)).mono ?_
    rintro e w' ⟨rfl, hM⟩
    obtain ⟨O', h⟩ := hP.made hM hP.cells
    exact ⟨0, 4, O', L, rfl, h⟩
theorem smk_cons (w W : World) (O : Nat → Prop) (ba : Nat) (L : List ObjA) (y z : Int) (hP : SMk w ba O L W) (hT : TabsA W) (hy : FindOk L y) (hz : FindOk L z) :
    Calls Tryd.prog 75 #[.pointer (some ⟨ba, 0, none⟩), .int .u64 y, .int .u64 z] W fun e w' => ∃ x er O' L', e = .returned (.tuple #[.int .u64 x, .int .i64 er]) ∧ SMk w ba O' L' w' ∧ Fr O W w' := by
  obtain ⟨k1, k2, k3, _⟩ := consA_ok
  have hu := hP.ar.lims.2
  refine (cons_any W O ba 20000 L y z hy.2 hz.2 hP.ar hT).mono ?_
  rintro e w' ⟨rfl, hM⟩
  have H := hold_ok (room := 20000) (L := L) (c := consA) (ys := [y, z]) hP.ar.wf k1 k3 (by omega) hu
  obtain ⟨O', h⟩ := hP.made hM (H.cells hP.cells)
  exact ⟨_, _, O', _, rfl, h, made_fr hM⟩
theorem words_find {L : List ObjA} (hw : WfA L) (hu : usedA L ≤ 262144) {k : Nat} (h : k < (wordsA 0 L).length) : FindOk L (wordsA 0 L)[k] := by
  rw [wordsA_len] at h
  obtain ⟨x, e1, f1, s1, fo, _⟩ := word_is hw hu h
  have : (wordsA 0 L)[k]? = some (wordsA 0 L)[k] := List.getElem?_eq_getElem _
  rw [this] at e1
  rw [Option.some.inj e1]
  exact fo
set_option maxRecDepth 10000 in
set_option maxHeartbeats 16000000 in
theorem smade_any (w : World) (ops : List Op4) (A : Option Addr) (cap : Nat) (hT : TabsA w) (hr : Script4 w A ops) (hk : ∀ op ∈ ops, Op4Ok op) (hl : ops.length ≤ 1000000000000000) (hcap : ops.length ≤ cap) :
    Calls Tryd.prog 50 #[.slice A ops.length cap] w fun e w' => ∃ ba O L, e = .returned (.pointer (some ⟨ba, 0, none⟩)) ∧ SMk w ba O L w' := by
  have h3 := tabs_size hT
  have hnew := new_any 20000 w (by decide) h3
  have HT := Lib.hid hT
  have HR := Lib.hid hr
  have HK := Lib.hid hk
  clear hT hr hk
  go_enter Tryd.func50, Tryd.ntmps50
  go_wp2_with fail
  refine hnew.mono ?_
  rintro e w1 ⟨ba, O1, rfl, hA1, hO1, hB1⟩
  have HS1 := Lib.hid (show SMk w ba O1 [] w1 from ⟨hA1, fun o ho => (by cases ho), hO1, hB1⟩)
  clear hnew hA1 hO1 hB1
  go_wp2_with fail
  go_loopw [4] (fun i wr => ∃ (j : Nat) (O : Nat → Prop) (L : List ObjA), j ≤ ops.length ∧ j ≤ 60 ∧ i = .int .i64 (j : Int) ∧ Hid (SMk w ba O L wr)) (fun i wr => 60 - (intOf i).toNat)
  case atStart => exact ⟨0, O1, [], Nat.zero_le _, by omega, rfl, HS1⟩
  case round =>
    clear HS1
    obtain ⟨j, O, L, hj, hj2, rfl, hS⟩ := hrel
    have hj0 : (0 : Int) ≤ (j : Int) := Int.natCast_nonneg _
    by_cases hlt : j < ops.length ∧ j < 60
    · obtain ⟨hlt, hlt2⟩ := hlt
      have hb1 : decide ((j : Int) < (ops.length : Int)) = true := decide_eq_true (by omega)
      have hb2 : decide ((j : Int) < 60) = true := decide_eq_true (by omega)
      have hj1 : (j : Int) < (ops.length : Int) := by omega
      obtain ⟨b, o, AT, AN, cT, cN, rfl, hop0⟩ := HR.out j hlt
      have hok := HK.out _ (List.getElem_mem hlt)
      obtain ⟨op, hopp⟩ : ∃ op, ops[j] = op := ⟨_, rfl⟩
      rw [hopp] at hop0 hok
      have HOP0 := Lib.hid hop0
      have HOK := Lib.hid hok
      have hall := sall_any wr O ba 20000 L hS.out.ar
      have hlims := hS.out.ar.lims
      have hwll := hS.out.ar.wf.len
      have hwl := wordsA_len 0 L
      have hwok := fun k (h : k < (wordsA 0 L).length) => words_find hS.out.ar.wf (by omega) h
      obtain ⟨WS, hWS⟩ : ∃ l, wordsA 0 L = l := ⟨_, rfl⟩
      rw [hWS] at hall hwl hwok
      have HWOK := Lib.hid hwok
      have hwle : WS.length ≤ 262144 := by omega
      clear hop0 hok hopp hWS hwok hwl
      go_wp2_with fail
      refine hall.mono ?_
      rintro e w2 ⟨AL, cL, rfl, hrowL, hb2L⟩
      have HRL := Lib.hid (WReads.of_row hrowL)
      have HS2 := Lib.hid (hS.out.below hb2L)
      have HPT0 := Lib.hid (show PtRep w2 w2 L [] (.slice none 0 0) from ⟨Below.refl _ _, row_nil _ _ _ _, fun x hx => (by cases hx)⟩)
      have hlN := HOK.out.lN
      clear hall hrowL hb2L
      go_wp2_with fail
      go_loopw [6, 7] (fun v i wr => ∃ (q : Nat) (ps : List Int), q ≤ op.N.length ∧ ps.length = q ∧ i = .int .i64 (q : Int) ∧ Hid (PtRep w2 wr L ps v)) (fun v i wr => op.N.length - (intOf i).toNat)
      case atStart => exact ⟨0, [], Nat.zero_le _, rfl, rfl, HPT0⟩
      case round =>
        clear HPT0
        obtain ⟨q, ps, hq, hpq, rfl, hPT⟩ := hrel
        have HPQ := Lib.hid hpq
        have hop1 := HOP0.out.below (HS2.out.below hPT.out.base).base
        have k2 := hop1.k2
        have HN := Lib.hid hop1.rN
        have hq0 : (0 : Int) ≤ (q : Int) := Int.natCast_nonneg _
        have hszr := hPT.out.base.size
        clear hpq hop1
        by_cases hq1 : q < op.N.length
        · have hql : decide ((q : Int) < (op.N.length : Int)) = true := decide_eq_true (by omega)
          have hqi : (q : Int) < (op.N.length : Int) := by omega
          by_cases hW : 0 < WS.length
          · have hWb : decide ((0 : Int) < (WS.length : Int)) = true := decide_eq_true (by omega)
            obtain ⟨g, o1, hAN, hc⟩ := HN.out q hq1
            subst hAN
            have hrn := HOK.out.rN _ (List.getElem_mem hq1)
            obtain ⟨y0, hy0⟩ : ∃ y, op.N[q] = y := ⟨_, rfl⟩
            rw [hy0] at hrn hc
            have hcn := count_any y0 WS.length wr (by omega) (by omega) hrn
            obtain ⟨AP, cP, hvP⟩ := row_slice hPT.out.row
            rw [HPQ.out] at hvP
            subst hvP
            have HROW := Lib.hid (show wr.ownsRow w2.heap.size 27 1 (.slice AP q cP) q (encW ps) by
              have := hPT.out.row
              rw [HPQ.out] at this
              exact this)
            obtain ⟨i0, hi, hz0, hz1, hz2⟩ := info_parts word_info
            clear hy0 hrn
            go_wp2_with fail
            refine hcn.mono ?_
            rintro e w3 ⟨k, hkk, rfl, hw3⟩
            subst hw3
            obtain ⟨g3, o3, hAL, hcL⟩ := (HRL.out.below hPT.out.base) k hkk
            subst hAL
            have HFO := Lib.hid (HWOK.out k hkk)
            obtain ⟨y, hy⟩ : ∃ y, WS[k] = y := ⟨_, rfl⟩
            rw [hy] at hcL HFO
            have hk0 : (0 : Int) ≤ (k : Int) := Int.natCast_nonneg _
            have hk1 : (k : Int) < (WS.length : Int) := by omega
            clear hcn hc hy
            go_wp2_with (at_builtin
                         refine wpList_append_own_at _ rfl (.tmp 38) (.tmp 53) _ rfl w2.heap.size 27 i0 (.int .u64 0) 1 8 Tryd.underlying31 hi hz0 hz1 hz2 rfl (by decide) (.slice AP q cP) q (encW ps) rfl (HROW.out.alloc _) ⟨wr.heap.size, 0, none⟩ 1 1 [.int .u64 y] rfl rfl (cell_one_new _ _ _) (by simp [Value.oneCell']) (by unfold maxLen; omega) (by omega) (by rw [World.size_alloc]; omega) ?_
                         intro v5 w5 hown5 hgrow5 hnil5 hat5)
            have HP5 := Lib.hid (show PtRep w2 w5 L (ps ++ [y]) v5 from ⟨below_grown (below_alloc' hPT.out.base _) hgrow5 (row_base hPT.out.row), by rw [List.length_append, List.length_singleton, HPQ.out, encW_snoc]; exact hown5, fun x hx => by
              rcases List.mem_append.1 hx with hx | hx
              · exact hPT.out.ok x hx
              · rw [List.mem_singleton.1 hx]
                exact HFO.out⟩)
            clear hown5 hgrow5 hnil5 hat5
            go_roundw
            case rel => exact ⟨q + 1, ps ++ [y], hq1, by rw [List.length_append, List.length_singleton, HPQ.out], by go_num, HP5⟩
            case measure => simp [intOf]; omega
          · have hWb : decide ((0 : Int) < (WS.length : Int)) = false := decide_eq_false (by omega)
            have hWb2 : ¬ 0 < WS.length := hW
            obtain ⟨AP, cP, hvP⟩ := row_slice hPT.out.row
            subst hvP
            have HS3 := Lib.hid (HS2.out.below hPT.out.base)
            have hop := HOP0.out.below (HS3.out.base)
            have k0 := hop.k0
            have k1 := hop.k1
            have HOPr := Lib.hid hop
            clear hop
            by_cases z0 : op.kind = 0
            · have e0 : (op.kind == 0) = true := by rw [z0]; rfl
              have hput := put_any wr O ba 20000 L op.T AT cT HS3.out.ar (HT.out.below HS3.out.base) HOPr.out.rT (fun h0 g q e ho => by
                obtain ⟨g', q', e', hc⟩ := HOP0.out.rT 0 (by omega)
                rw [e] at e'
                cases e'
                have := cell_lt hc.1
                simp at this
                have := HS3.out.own _ ho
                omega) (fun i hi => HOK.out.wf _ (List.getElem_mem hi)) HOK.out.lT
              have HPO := Lib.hid (put_ok (room := 20000) (L := L) op.T HS3.out.ar.wf (by omega) HS3.out.ar.lims.2)
              obtain ⟨X, hX⟩ : ∃ X, putX 20000 L op.T = X := ⟨_, rfl⟩
              obtain ⟨E, hE⟩ : ∃ E, putE 20000 L op.T = E := ⟨_, rfl⟩
              rw [hX, hE] at hput
              clear z0 hX hE
              go_wp2_with fail
              refine hput.mono ?_
              rintro e w5 ⟨rfl, hM⟩
              obtain ⟨O5, hS5⟩ := HS3.out.made hM (HPO.out.cells HS3.out.cells HOK.out.wf)
              have HS5 := Lib.hid hS5
              clear hput hM hS5
              go_wp2
              go_roundw
              case rel => exact ⟨j + 1, O5, _, by omega, by omega, by go_num, HS5⟩
              case measure => simp [intOf]; omega
            · have e0 : (op.kind == 0) = false := beq_eq_false_iff_ne.2 z0
              by_cases z1 : op.kind = 1
              · have e1 : (op.kind == 1) = true := by rw [z1]; rfl
                have htp := smk_tuple w wr O ba L ps AP cP HS3.out (HT.out.below HS3.out.base) (WReads.of_row hPT.out.row) hPT.out.ok
                clear z0 z1
                go_wp2_with fail
                refine htp.mono ?_
                rintro e w5 ⟨x, er, O5, L5, rfl, hS5⟩
                have HS5 := Lib.hid hS5
                clear htp hS5
                go_wp2
                go_roundw
                case rel => exact ⟨j + 1, O5, L5, by omega, by omega, by go_num, HS5⟩
                case measure => simp [intOf]; omega
              · have e1 : (op.kind == 1) = false := beq_eq_false_iff_ne.2 z1
                by_cases z2 : op.kind = 2
                · have e2 : (op.kind == 2) = true := by rw [z2]; rfl
                  by_cases h2 : 1 < ps.length
                  · have hb4 : decide ((1 : Int) < (ps.length : Int)) = true := decide_eq_true (by omega)
                    obtain ⟨g, o2, hAP, p0⟩ := (WReads.of_row hPT.out.row) 0 (by omega)
                    obtain ⟨g', o2', hAP', p1⟩ := (WReads.of_row hPT.out.row) 1 (by omega)
                    subst hAP
                    cases hAP'
                    obtain ⟨y0, hy0⟩ : ∃ y, ps[0] = y := ⟨_, rfl⟩
                    obtain ⟨y1, hy1⟩ : ∃ y, ps[1] = y := ⟨_, rfl⟩
                    have hf0 := hPT.out.ok ps[0] (List.getElem_mem (by omega))
                    have hf1 := hPT.out.ok ps[1] (List.getElem_mem (by omega))
                    rw [hy0] at hf0
                    rw [hy1] at hf1
                    rw [hy0, Nat.add_zero] at p0
                    rw [hy1] at p1
                    have i0' : (0 : Int) < (ps.length : Int) := by omega
                    have i1' : (1 : Int) < (ps.length : Int) := by omega
                    have i2' : 0 < ps.length := by omega
                    have hcx := fun W (hB : Below wr.heap.size wr W) => smk_cons w W O ba L y0 y1 (HS3.out.below hB) (HT.out.below (below_then HS3.out.base hB)) hf0 hf1
                    have HCX := Lib.hid hcx
                    have hgO : ¬ O g := fun q => by
                      have h1 := row_base hPT.out.row g (by simp [Value.ownBlock])
                      have h2 := (HS2.out.ar.lim g q).2
                      omega
                    clear z0 z1 z2 hy0 hy1 hf0 hf1 hcx
                    go_upto_region 20 with (fail)
                    go_region_held3 (fun W' => W'.cell? ⟨g, o2, none⟩ = some (.int .u64 y0) ∧ W'.cell? ⟨g, o2 + 1, none⟩ = some (.int .u64 y1))
                      (first
                        | exact ⟨p0, p1⟩
                        | exact ⟨q0, q1⟩
                        | go_keep)
                      (first
                        | (go_at_call 75; go_split_ands; refine (HCX.out _ (Below.refl _ _).drew).mono ?_; rintro e w5 ⟨x, er, O5, L5, rfl, hS5, hfr⟩; have HS5 := Lib.hid hS5; have q0 := hfr.cell (cell_below (Below.refl _ _).drew p0) hgO; have q1 := hfr.cell (cell_below (Below.refl _ _).drew p1) hgO))
                    go_wp2
                    go_roundw
                    case rel => exact ⟨j + 1, O5, L5, by omega, by omega, by go_num, HS5⟩
                    case measure => simp [intOf]; omega
                  · have hb4 : decide ((1 : Int) < (ps.length : Int)) = false := decide_eq_false (by omega)
                    have hb5 : ¬ (1 : Int) < (ps.length : Int) := by omega
                    clear z0 z1 z2 h2
                    go_wp2
                    go_roundw
                    case rel => exact ⟨j + 1, O, L, by omega, by omega, by go_num, HS3⟩
                    case measure => simp [intOf]; omega
                · have e2 : (op.kind == 2) = false := beq_eq_false_iff_ne.2 z2
                  clear z0 z1 z2
                  go_wp2
                  go_roundw
                  case rel => exact ⟨j + 1, O, L, by omega, by omega, by go_num, HS3⟩
                  case measure => simp [intOf]; omega
        · have hql : decide ((q : Int) < (op.N.length : Int)) = false := decide_eq_false (by omega)
          obtain ⟨AP, cP, hvP⟩ := row_slice hPT.out.row
          subst hvP
          have HS3 := Lib.hid (HS2.out.below hPT.out.base)
          have hop := HOP0.out.below (HS3.out.base)
          have k0 := hop.k0
          have k1 := hop.k1
          have HOPr := Lib.hid hop
          clear hop
          by_cases z0 : op.kind = 0
          · have e0 : (op.kind == 0) = true := by rw [z0]; rfl
            have hput := put_any wr O ba 20000 L op.T AT cT HS3.out.ar (HT.out.below HS3.out.base) HOPr.out.rT (fun h0 g q e ho => by
              obtain ⟨g', q', e', hc⟩ := HOP0.out.rT 0 (by omega)
              rw [e] at e'
              cases e'
              have := cell_lt hc.1
              simp at this
              have := HS3.out.own _ ho
              omega) (fun i hi => HOK.out.wf _ (List.getElem_mem hi)) HOK.out.lT
            have HPO := Lib.hid (put_ok (room := 20000) (L := L) op.T HS3.out.ar.wf (by omega) HS3.out.ar.lims.2)
            obtain ⟨X, hX⟩ : ∃ X, putX 20000 L op.T = X := ⟨_, rfl⟩
            obtain ⟨E, hE⟩ : ∃ E, putE 20000 L op.T = E := ⟨_, rfl⟩
            rw [hX, hE] at hput
            clear z0 hX hE
            go_wp2_with fail
            refine hput.mono ?_
            rintro e w5 ⟨rfl, hM⟩
            obtain ⟨O5, hS5⟩ := HS3.out.made hM (HPO.out.cells HS3.out.cells HOK.out.wf)
            have HS5 := Lib.hid hS5
            clear hput hM hS5
            go_wp2
            go_roundw
            case rel => exact ⟨j + 1, O5, _, by omega, by omega, by go_num, HS5⟩
            case measure => simp [intOf]; omega
          · have e0 : (op.kind == 0) = false := beq_eq_false_iff_ne.2 z0
            by_cases z1 : op.kind = 1
            · have e1 : (op.kind == 1) = true := by rw [z1]; rfl
              have htp := smk_tuple w wr O ba L ps AP cP HS3.out (HT.out.below HS3.out.base) (WReads.of_row hPT.out.row) hPT.out.ok
              clear z0 z1
              go_wp2_with fail
              refine htp.mono ?_
              rintro e w5 ⟨x, er, O5, L5, rfl, hS5⟩
              have HS5 := Lib.hid hS5
              clear htp hS5
              go_wp2
              go_roundw
              case rel => exact ⟨j + 1, O5, L5, by omega, by omega, by go_num, HS5⟩
              case measure => simp [intOf]; omega
            · have e1 : (op.kind == 1) = false := beq_eq_false_iff_ne.2 z1
              by_cases z2 : op.kind = 2
              · have e2 : (op.kind == 2) = true := by rw [z2]; rfl
                by_cases h2 : 1 < ps.length
                · have hb4 : decide ((1 : Int) < (ps.length : Int)) = true := decide_eq_true (by omega)
                  obtain ⟨g, o2, hAP, p0⟩ := (WReads.of_row hPT.out.row) 0 (by omega)
                  obtain ⟨g', o2', hAP', p1⟩ := (WReads.of_row hPT.out.row) 1 (by omega)
                  subst hAP
                  cases hAP'
                  obtain ⟨y0, hy0⟩ : ∃ y, ps[0] = y := ⟨_, rfl⟩
                  obtain ⟨y1, hy1⟩ : ∃ y, ps[1] = y := ⟨_, rfl⟩
                  have hf0 := hPT.out.ok ps[0] (List.getElem_mem (by omega))
                  have hf1 := hPT.out.ok ps[1] (List.getElem_mem (by omega))
                  rw [hy0] at hf0
                  rw [hy1] at hf1
                  rw [hy0, Nat.add_zero] at p0
                  rw [hy1] at p1
                  have i0' : (0 : Int) < (ps.length : Int) := by omega
                  have i1' : (1 : Int) < (ps.length : Int) := by omega
                  have i2' : 0 < ps.length := by omega
                  have hcx := fun W (hB : Below wr.heap.size wr W) => smk_cons w W O ba L y0 y1 (HS3.out.below hB) (HT.out.below (below_then HS3.out.base hB)) hf0 hf1
                  have HCX := Lib.hid hcx
                  have hgO : ¬ O g := fun q => by
                    have h1 := row_base hPT.out.row g (by simp [Value.ownBlock])
                    have h2 := (HS2.out.ar.lim g q).2
                    omega
                  clear z0 z1 z2 hy0 hy1 hf0 hf1 hcx
                  go_upto_region 20 with (fail)
                  go_region_held3 (fun W' => W'.cell? ⟨g, o2, none⟩ = some (.int .u64 y0) ∧ W'.cell? ⟨g, o2 + 1, none⟩ = some (.int .u64 y1))
                    (first
                      | exact ⟨p0, p1⟩
                      | exact ⟨q0, q1⟩
                      | go_keep)
                    (first
                      | (go_at_call 75; go_split_ands; refine (HCX.out _ (Below.refl _ _).drew).mono ?_; rintro e w5 ⟨x, er, O5, L5, rfl, hS5, hfr⟩; have HS5 := Lib.hid hS5; have q0 := hfr.cell (cell_below (Below.refl _ _).drew p0) hgO; have q1 := hfr.cell (cell_below (Below.refl _ _).drew p1) hgO))
                  go_wp2
                  go_roundw
                  case rel => exact ⟨j + 1, O5, L5, by omega, by omega, by go_num, HS5⟩
                  case measure => simp [intOf]; omega
                · have hb4 : decide ((1 : Int) < (ps.length : Int)) = false := decide_eq_false (by omega)
                  have hb5 : ¬ (1 : Int) < (ps.length : Int) := by omega
                  clear z0 z1 z2 h2
                  go_wp2
                  go_roundw
                  case rel => exact ⟨j + 1, O, L, by omega, by omega, by go_num, HS3⟩
                  case measure => simp [intOf]; omega
              · have e2 : (op.kind == 2) = false := beq_eq_false_iff_ne.2 z2
                clear z0 z1 z2
                go_wp2
                go_roundw
                case rel => exact ⟨j + 1, O, L, by omega, by omega, by go_num, HS3⟩
                case measure => simp [intOf]; omega
    · have hcase : (¬ j < ops.length ∧ decide ((j : Int) < (ops.length : Int)) = false) ∨ (j < ops.length ∧ decide ((j : Int) < (ops.length : Int)) = true ∧ ¬ j < 60 ∧ decide ((j : Int) < 60) = false) := by
        by_cases h : j < ops.length
        · exact .inr ⟨h, decide_eq_true (by omega), by omega, decide_eq_false (by omega)⟩
        · exact .inl ⟨h, decide_eq_false (by omega)⟩
      clear hlt
      rcases hcase with ⟨hp1, hb1⟩ | ⟨hp1, hb1, hp2, hb2⟩
      · go_wp2
        go_ret
        exact ⟨ba, O, L, rfl, hS.out⟩
      · go_wp2
        go_ret
        exact ⟨ba, O, L, rfl, hS.out⟩
end Go.Proofs.YthgnihckeckaiaaDoor.Tm
