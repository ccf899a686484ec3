/- The law's depth: the walk. -/
import Derived.Test.YtemamhjcboelcaaDoorDpDl
namespace Go.Proofs.YtemamhjcboelcaaDoor.Tm
open Go.RowKit
set_option linter.unusedVariables false
set_option linter.unusedSimpArgs false

theorem fr_drewA {O : Nat → Prop} {a b : World} (h : Fr O a b) (n : Nat) : Fr O a (b.drewN n) := ⟨h.os, h.tape, h.output, h.size, h.block⟩
theorem DSt.drew {w5 wr : World} {g : Nat} {D : List Nat} (h : DSt w5 wr g D) (n : Nat) : DSt w5 (wr.drewN n) g D := ⟨fr_drewA h.fr n, h.blk⟩
theorem depS_zero (L : List ObjA) (ws : List Int) : depS L ws 0 = List.replicate ws.length 0 := by simp [depS, depV, depAll]
theorem depS_last {L : List ObjA} {ws : List Int} {n : Nat} (h : ws.length = n + 1) : (depS L ws ws.length)[n]? = some (lastD (depAll L ws)) := by
  have hd : (depAll L ws).length = n + 1 := by rw [depAll_len, h]
  unfold depS depV
  rw [List.take_length, Nat.sub_self, List.replicate_zero, List.append_nil, List.getElem?_map]
  unfold lastD
  rw [List.getLast?_eq_getElem?, hd, Nat.add_sub_cancel, List.getElem?_eq_getElem (by omega)]
  rfl
theorem lastD_none {L : List ObjA} {ws : List Int} (h : ws.length = 0) : lastD (depAll L ws) = 0 := by
  rw [List.length_eq_zero_iff.1 h]
  rfl
theorem row_blk {w W : World} {base n c : Nat} {A : Option Addr} {l : List Int} (h : W.ownsRow base 27 1 (.slice A n c) n (encW l)) : ∀ g o, A = some ⟨g, o, none⟩ → base ≤ g ∧ g < W.heap.size := fun g o e => by
  subst e
  rcases h.2 with ⟨e, _⟩ | ⟨g', c', cur, e, _⟩
  · cases e
  · injection e with e1 _ _
    injection e1 with e1
    injection e1 with e1 e2 _
    subst e1
    subst e2
    exact ⟨row_base h g rfl, row_lt h g rfl⟩
theorem looked {L : List ObjA} {ws : List Int} (hn : ws.Nodup) {i k v c0 : Nat} {p x : Int} (h : (depAll L (ws.take i))[k]? = some (x, v)) :
    max c0 (lookD ((depAll L (ws.take i)).take (k + 1)) p) = if x = p ∧ max c0 (lookD ((depAll L (ws.take i)).take k) p) < v then v else max c0 (lookD ((depAll L (ws.take i)).take k) p) := by
  obtain ⟨h1, h2⟩ := lookT_succ (p := p) hn h
  rw [h1]
  by_cases e : p = x
  · rw [if_pos e, h2 e]
    by_cases hv : c0 < v
    · rw [if_pos ⟨e.symm, by omega⟩]; omega
    · rw [if_neg (by omega)]; omega
  · rw [if_neg e, if_neg (fun hh => e hh.1.symm)]
set_option maxRecDepth 10000 in
set_option maxHeartbeats 8000000 in
theorem ldepth_any (w : World) (O : Nat → Prop) (ba room : Nat) (L : List ObjA) (x : Int) (hA : ArAt w O ba room L) (hx : FindOk L x) :
    Calls Tryd.prog 36 #[.pointer (some ⟨ba, 0, none⟩), .int .u64 x] w fun e V => e = .returned (.int .i64 (depthOf L x : Int)) ∧ Below w.heap.size w V := by
  have hwf := hA.wf
  have hlims := hA.lims
  have hll := hwf.len
  have hm0 : MetOk L [] := ⟨List.nodup_nil, fun x hx => (by cases hx)⟩
  have hmo := vis_ok hwf (m := []) hm0 hx
  have hob : objsOf L x = visW L [] x := by unfold objsOf; rw [if_pos hx.1]
  have hobj := objects_any hwf O ba room w.heap.size (by omega) (rkW L x + 1) x [] (.slice none 0 0) w (Nat.lt_succ_self _) hx hm0 hA (fun k hk => by cases hk) (row_nil _ _ _ _) (Nat.le_refl _)
  rw [← hob] at hmo hobj
  have hol := hmo.len
  obtain ⟨ws, hws⟩ : ∃ ws, objsOf L x = ws := ⟨_, rfl⟩
  have hdep : depthOf L x = lastD (depAll L ws) := by unfold depthOf; rw [hws]
  rw [hws] at hmo hobj hol
  have hw1 : ws.length ≤ 262144 := by omega
  have hmk := run_make_row' (P := Tryd.prog) 66 3 (.int .i64 0) 8 Tryd.underlying66 int_info3 rfl .i64 .i64 ws.length (by omega) (by omega)
  have hO := fun k hk => (hA.lim k hk).2
  have HA := Lib.hid hA
  have HWF := Lib.hid hwf
  have HMO := Lib.hid hmo
  have HO := Lib.hid hO
  rw [hdep]
  clear hA hwf hmo hm0 hob hdep hO hws hx hlims hol hll
  go_enter Tryd.func36, Tryd.ntmps36
  go_wp2_with fail
  refine hobj.mono ?_
  rintro e w1 ⟨v, rfl, hS⟩
  obtain ⟨AX, cX, rfl⟩ := row_slice hS.row
  have hB1 : Below w.heap.size w w1 := hS.fr.below (Nat.le_refl _) (fun k hk => by cases hk)
  have HRB := Lib.hid (row_blk (w := w) hS.row)
  have HR1 := Lib.hid (WReads.of_row hS.row)
  have HB1 := Lib.hid hB1
  have hs1 := hB1.size
  clear hobj hS hB1
  go_upto_block 3 with fail
  clear hmk
  rw [made_zero]
  have HD0 := Lib.hid (show DSt (w1.alloc (.cells (encD (List.replicate ws.length 0)) 3)) (w1.alloc (.cells (encD (List.replicate ws.length 0)) 3)) w1.heap.size (depS L ws 0) from ⟨Fr.refl _ _, by rw [depS_zero]; exact heap_new w1 _⟩)
  have HBA := Lib.hid (below_one w1 (.cells (encD (List.replicate ws.length 0)) 3))
  have hsW : (w1.alloc (.cells (encD (List.replicate ws.length 0)) 3)).heap.size = w1.heap.size + 1 := World.size_alloc _ _
  generalize w1.alloc (.cells (encD (List.replicate ws.length 0)) 3) = W at *
  have HRW := Lib.hid (HR1.out.below HBA.out)
  have HAW := Lib.hid (HA.out.below (below_then HB1.out HBA.out))
  go_wp2_with fail
  have HSP := Lib.hid HD0.out.blk.lt
  go_loopw [20] (fun i wr => ∃ j : Nat, j ≤ ws.length ∧ i = .int .i64 (j : Int) ∧ Hid (DSt W wr w1.heap.size (depS L ws j))) (fun i wr => ws.length - (intOf i).toNat)
  case atStart => exact ⟨0, Nat.zero_le _, rfl, HD0⟩
  case round =>
    obtain ⟨j, hj, rfl, hD⟩ := hrel
    have HRr := Lib.hid (HRW.out.fr hD.out.fr (fun g o e => by have := HRB.out g o e; omega))
    have HAr := Lib.hid (HAW.out.fr hD.out.fr (fun k hk => by have := HO.out k hk; omega))
    have HBr := Lib.hid (show Below w.heap.size w wr from below_then HB1.out (HBA.out.trans (hD.out.fr.below (s := w1.heap.size) (by omega) (fun k hk => Nat.le_of_eq hk.symm))))
    by_cases hlt : j < ws.length
    · obtain ⟨g, o, rfl, q0⟩ := HRr.out j hlt
      have hyo := (HMO.out.ok ws[j] (List.getElem_mem hlt)).1
      have HNX := Lib.hid (depS_next L hlt)
      have HDR := Lib.hid (show DSt W wr w1.heap.size (depR L ws j 0) from by rw [← depS_start L hlt]; exact hD.out)
      obtain ⟨y, hy⟩ : ∃ y, ws[j] = y := ⟨_, rfl⟩
      rw [hy] at q0 hyo HNX
      have hhe := dheld_any wr O ba room L y HAr.out hyo.2.1 hyo.2.2
      obtain ⟨P, hP⟩ : ∃ P, partsW L y = P := ⟨_, rfl⟩
      have hpp := parts_len HWF.out y
      rw [hP] at hhe hpp HNX
      have hj1 : (j : Int) < (ws.length : Int) := by omega
      have hj0 : (0 : Int) ≤ (j : Int) := Int.natCast_nonneg _
      have hbl : decide ((j : Int) < (ws.length : Int)) = true := decide_eq_true hj1
      clear hy hyo hP hD
      go_wp2_with fail
      refine hhe.mono ?_
      rintro e w2 ⟨AP, cP, rfl, hS⟩
      have HPB := Lib.hid (row_blk (w := wr) hS.row)
      have HPR := Lib.hid (WReads.of_row hS.row)
      have HB2 := Lib.hid hS.base
      have HD2 := Lib.hid (HDR.out.below hS.base)
      have hs2 := hS.base.size
      have hgw := HDR.out.blk.lt
      clear hhe hS q0
      go_wp2_with fail
      go_loopw [29] (fun i wr => ∃ q : Nat, q ≤ P.length ∧ i = .int .i64 (q : Int) ∧ Hid (DSt W wr w1.heap.size (depR L ws j (maxD (depAll L (ws.take j)) 0 (P.take q)))) ∧ Hid (Fr (fun k => k = w1.heap.size) w2 wr)) (fun i wr => P.length - (intOf i).toNat)
      case atStart => exact ⟨0, Nat.zero_le _, rfl, HD2, Lib.hid (Fr.refl _ _)⟩
      case round =>
        obtain ⟨q, hq, rfl, hE, hF⟩ := hrel
        have HRq := Lib.hid (HRr.out.fr (((Fr.of_below HB2.out).trans hF.out : Fr (fun k => k = w1.heap.size) _ _)) (fun g o e => by have := HRB.out g o e; omega))
        by_cases hqt : q < P.length
        · obtain ⟨g2, o2, rfl, q2⟩ := (HPR.out.fr hF.out (fun g o e => by have := HPB.out g o e; omega)) q hqt
          have HMX := Lib.hid (maxD_take (depAll L (ws.take j)) hqt)
          obtain ⟨p, hp⟩ : ∃ p, P[q] = p := ⟨_, rfl⟩
          rw [hp] at q2 HMX
          have hq1 : (q : Int) < (P.length : Int) := by omega
          have hq0 : (0 : Int) ≤ (q : Int) := Int.natCast_nonneg _
          have hbq : decide ((q : Int) < (P.length : Int)) = true := decide_eq_true hq1
          generalize maxD (depAll L (ws.take j)) 0 (P.take q) = c0 at *
          have hE0 : Hid (DSt W wr w1.heap.size (depR L ws j (max c0 (lookD ((depAll L (ws.take j)).take 0) p)))) := by
            rw [show max c0 (lookD ((depAll L (ws.take j)).take 0) p) = c0 by simp [lookD]]
            exact hE
          clear hp hE
          go_wp2_with fail
          go_loopw [11] (fun i wr' => ∃ k : Nat, k ≤ j ∧ i = .int .i64 (k : Int) ∧ Hid (DSt W wr' w1.heap.size (depR L ws j (max c0 (lookD ((depAll L (ws.take j)).take k) p)))) ∧ Hid (Fr (fun k => k = w1.heap.size) wr wr')) (fun i wr' => j - (intOf i).toNat)
          case atStart => exact ⟨0, Nat.zero_le _, rfl, hE0, Lib.hid (Fr.refl _ _)⟩
          case round =>
            obtain ⟨k, hk, rfl, hG, hH⟩ := hrel
            have HRk := Lib.hid (HRq.out.fr hH.out (fun g o e => by have := HRB.out g o e; omega))
            by_cases hkt : k < j
            · have hkl : k < ws.length := by omega
              obtain ⟨v, c1, c2⟩ := depR_lt L (cur := max c0 (lookD ((depAll L (ws.take j)).take k) p)) hlt hkt
              have HLK := Lib.hid (looked (c0 := c0) (p := p) HMO.out.nodup c2)
              obtain ⟨g3, o3, e3, q3⟩ := HRk.out k hkl
              cases e3
              obtain ⟨d1, d2⟩ := hG.out.cell c1
              obtain ⟨d3, d4⟩ := hG.out.cell (depR_at L (cur := max c0 (lookD ((depAll L (ws.take j)).take k) p)) hlt)
              obtain ⟨z, hz⟩ : ∃ z, ws[k] = z := ⟨_, rfl⟩
              rw [hz] at q3 HLK
              generalize max c0 (lookD ((depAll L (ws.take j)).take k) p) = cur at *
              have hk1 : (k : Int) < (j : Int) := by omega
              have hk0 : (0 : Int) ≤ (k : Int) := Int.natCast_nonneg _
              have hbk : decide ((k : Int) < (j : Int)) = true := decide_eq_true hk1
              clear c1 c2 hz
              by_cases hzp : z = p
              · have hb1 : (z == p) = true := by rw [hzp]; simp
                by_cases hcv : cur < v
                · have hb2 : decide ((v : Int) > (cur : Int)) = true := decide_eq_true (by omega)
                  have hb3 : decide ((cur : Int) < (v : Int)) = true := decide_eq_true (by omega)
                  rw [if_pos ⟨hzp, hcv⟩] at HLK
                  have HG2 := fun nq => Lib.hid ((hG.out.drew nq).set j v rfl (depR_set L (v := v) hlt))
                  have HH2 := fun nq => Lib.hid (fr_set (O := fun k => k = w1.heap.size) (fr_drewA hH.out nq) rfl j (.int .i64 (v : Int)))
                  have HV := Lib.hid HLK.out
                  clear hG hzp
                  go_wp2_with go_quiet (fail)
                  all_goals first
                    | (exfalso; omega)
                    | skip
                  go_roundw
                  case rel => exact ⟨k + 1, by omega, by go_num, by rw [HV.out]; exact HG2 _, HH2 _⟩
                  case measure => simp [intOf]; omega
                · have hb2 : decide ((v : Int) > (cur : Int)) = false := decide_eq_false (by omega)
                  have hb3 : decide ((cur : Int) < (v : Int)) = false := decide_eq_false (by omega)
                  rw [if_neg (fun e => hcv e.2)] at HLK
                  rw [← HLK.out] at hG
                  have HG2 := fun nq => Lib.hid (hG.out.drew nq)
                  have HH2 := fun nq => Lib.hid (fr_drewA hH.out nq)
                  clear hzp hG
                  go_wp2_with go_quiet (fail)
                  all_goals first
                    | (exfalso; omega)
                    | skip
                  go_roundw
                  case rel => exact ⟨k + 1, by omega, by go_num, HG2 _, HH2 _⟩
                  case measure => simp [intOf]; omega
              · have hb1 : (z == p) = false := beq_eq_false_iff_ne.2 hzp
                rw [if_neg (fun e => hzp e.1)] at HLK
                rw [← HLK.out] at hG
                have HG2 := fun nq => Lib.hid (hG.out.drew nq)
                have HH2 := fun nq => Lib.hid (fr_drewA hH.out nq)
                clear hzp hG
                go_wp2_with go_quiet (fail)
                go_roundw
                case rel => exact ⟨k + 1, by omega, by go_num, HG2 _, HH2 _⟩
                case measure => simp [intOf]; omega
            · obtain rfl : k = j := by omega
              have hbk : decide ((k : Int) < (k : Int)) = false := decide_eq_false (by omega)
              have HE2 : Hid (DSt W wr w1.heap.size (depR L ws k (maxD (depAll L (ws.take k)) 0 (P.take (q + 1))))) := by
                have := hG
                rw [List.take_of_length_le (by rw [depAll_len, List.length_take]; omega), ← HMX.out] at this
                exact this
              have HF2 := Lib.hid (hF.out.trans hH.out)
              clear hG
              go_wp2
              go_roundw
              case rel => exact ⟨q + 1, by omega, by go_num, HE2, HF2⟩
              case measure => simp [intOf]; omega
        · obtain rfl : q = P.length := by omega
          have hbq : decide ((P.length : Int) < (P.length : Int)) = false := decide_eq_false (by omega)
          have hmx : maxD (depAll L (ws.take j)) 0 P ≤ j := maxD_le (depAll_le L j (ws.take j) (by rw [List.length_take]; omega)) P 0 (Nat.zero_le _)
          rw [List.take_length] at hE
          obtain ⟨d1, d2⟩ := hE.out.cell (depR_at L hlt)
          have HG2 := Lib.hid (hE.out.set (u := (maxD (depAll L (ws.take j)) 0 P : Int) + 1) j (maxD (depAll L (ws.take j)) 0 P + 1) (by omega) (depR_set L (v := maxD (depAll L (ws.take j)) 0 P + 1) hlt))
          rw [HNX.out] at HG2
          generalize maxD (depAll L (ws.take j)) 0 P = c0 at *
          clear hE
          go_wp2_with fail
          go_roundw
          case rel => exact ⟨j + 1, by omega, by go_num, HG2⟩
          case measure => simp [intOf]; omega
    · obtain rfl : j = ws.length := by omega
      have hbl : decide ((ws.length : Int) < (ws.length : Int)) = false := decide_eq_false (by omega)
      by_cases hn : ws.length = 0
      · have HZ := Lib.hid (lastD_none (L := L) hn)
        have hb1 : ((ws.length : Int) == 0) = true := by rw [hn]; rfl
        clear hD
        go_wp2
        go_ret
        exact ⟨by rw [HZ.out]; rfl, HBr.out⟩
      · have hb1 : ((ws.length : Int) == 0) = false := beq_eq_false_iff_ne.2 (by omega)
        obtain ⟨n, hn'⟩ : ∃ n, ws.length = n + 1 := ⟨ws.length - 1, by omega⟩
        obtain ⟨d1, d2⟩ := hD.out.cell (depS_last (L := L) hn')
        have hi : (ws.length : Int) - 1 = (n : Int) := by omega
        have hn2 : n < ws.length := by omega
        obtain ⟨R, hR⟩ : ∃ R, lastD (depAll L ws) = R := ⟨_, rfl⟩
        rw [hR] at d1
        have HRE := Lib.hid hR
        clear hD hn hn' hR
        go_wp2
        go_ret
        exact ⟨by rw [HRE.out]; rfl, HBr.out⟩
end Go.Proofs.YtemamhjcboelcaaDoor.Tm
