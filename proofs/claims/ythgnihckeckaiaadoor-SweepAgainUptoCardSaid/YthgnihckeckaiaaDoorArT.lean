/- arena.Put. -/
import Derived.Test.YthgnihckeckaiaaDoorArR
import Derived.Test.YthgnihckeckaiaaDoorMidA
import Derived.WalkMore
namespace Go.Proofs.YthgnihckeckaiaaDoor.Tm
open Go.RowKit
set_option linter.unusedVariables false
set_option linter.unusedSimpArgs false

/-- What Put answers. -/
def putE (room : Nat) (l : List ObjA) (t : List CellD) : Int := if (rightE t).1 ≠ 0 then (rightE t).1 else if (room : Int) - (usedA l : Int) < (totalA t : Int) then 30 else 0
def putL (room : Nat) (l : List ObjA) (t : List CellD) : List ObjA := if putE room l t = 0 then (putF l t).1 else l
def putX (room : Nat) (l : List ObjA) (t : List CellD) : Int := if putE room l t = 0 then (putF l t).2.2 else 0
theorem good_cells : ∀ {l : List CellD} {o : Int}, Good l o → ∀ c ∈ l, cellE c = 0
  | [], _, _, c, hc => by cases hc
  | a :: l, o, g, c, hc => by
    rcases List.mem_cons.1 hc with rfl | hc
    · exact g.1
    · exact good_cells g.2.2 c hc
theorem total_le : ∀ {l : List CellD}, (∀ c ∈ l, cellE c = 0) → totalA l ≤ 384 * l.length
  | [], _ => by simp [totalA]
  | c :: l, h => by
    have h1 := cost_le (h c (by simp))
    have h2 := kidsD_le c
    have h3 := total_le (l := l) (fun x hx => h x (by simp [hx]))
    simp [totalA] at h3 ⊢
    omega
theorem total_take {l : List CellD} {j : Nat} (h : j < l.length) : totalA (l.take (j + 1)) = totalA (l.take j) + costC l[j] := by
  rw [List.take_succ_eq_append_getElem h, totalA_snoc]
theorem total_take_le (l : List CellD) (j : Nat) : totalA (l.take j) ≤ totalA l := by
  have := totalA_append (l.take j) (l.drop j)
  rw [List.take_append_drop] at this
  omega
theorem fold_take {l : List CellD} {j : Nat} (h : j < l.length) (s : List ObjA × List OpenA × Int) : (l.take (j + 1)).foldl putStep s = putStep ((l.take j).foldl putStep s) l[j] := by
  rw [List.take_succ_eq_append_getElem h, List.foldl_append]
  rfl
set_option maxHeartbeats 2000000 in
theorem put_bad (w : World) (O : Nat → Prop) (ba room : Nat) (l : List ObjA) (t : List CellD) (A : Option Addr) (cap : Nat) (h : ArAt w O ba room l) (hT : TabsA w) (hr : Reads w A t) (hwf : ∀ j (h : j < t.length), WfC t[j]) (hl : t.length ≤ 1000000000000000) (he : (rightE t).1 ≠ 0) :
    Calls Tryd.prog 18 #[.pointer (some ⟨ba, 0, none⟩), .slice A t.length cap] w fun e w' => e = .returned (.tuple #[.int .u64 (putX room l t), .int .i64 (putE room l t)]) ∧ Made w w' O ba room (putL room l t) := by
  have e1 : putE room l t = (rightE t).1 := by unfold putE; rw [if_pos he]
  have e2 : putL room l t = l := by unfold putL; rw [e1, if_neg he]
  have e3 : putX room l t = 0 := by unfold putX; rw [e1, if_neg he]
  have H := Lib.hid (⟨e1, e2, e3⟩ : putE room l t = (rightE t).1 ∧ putL room l t = l ∧ putX room l t = 0)
  have hR := wright_any t A cap w hr (fun j hj => (hwf j hj).text) hl hT.utf
  obtain ⟨x, hx⟩ : ∃ x, (rightE t).1 = x := ⟨_, rfl⟩
  obtain ⟨y, hy⟩ : ∃ y, (rightE t).2 = y := ⟨_, rfl⟩
  rw [hx, hy] at hR
  rw [hx] at he H
  have hb : (x != 0) = true := by simpa using he
  have h := Lib.hid h
  clear e1 e2 e3 hx hy hT hr hwf he
  go_enter Tryd.func18, Tryd.ntmps18
  go_wp2_with fail
  refine hR.mono ?_
  rintro e w' ⟨rfl, hB⟩
  go_wp2
  go_ret2
  rw [H.out.1, H.out.2.1, H.out.2.2]
  exact ⟨rfl, Made.of_below h.out hB⟩
set_option maxHeartbeats 4000000 in
theorem put_full (w : World) (O : Nat → Prop) (ba room : Nat) (l : List ObjA) (t : List CellD) (A : Option Addr) (cap : Nat) (h : ArAt w O ba room l) (hT : TabsA w) (hr : Reads w A t) (hwf : ∀ j (h : j < t.length), WfC t[j]) (hl : t.length ≤ 1000000000000000) (he : (rightE t).1 = 0) (hf : (room : Int) - (usedA l : Int) < (totalA t : Int)) :
    Calls Tryd.prog 18 #[.pointer (some ⟨ba, 0, none⟩), .slice A t.length cap] w fun e w' => e = .returned (.tuple #[.int .u64 (putX room l t), .int .i64 (putE room l t)]) ∧ Made w w' O ba room (putL room l t) := by
  have e1 : putE room l t = 30 := by unfold putE; rw [if_neg (by omega), if_pos hf]
  have e2 : putL room l t = l := by unfold putL; rw [e1, if_neg (by omega)]
  have e3 : putX room l t = 0 := by unfold putX; rw [e1, if_neg (by omega)]
  have H := Lib.hid (⟨e1, e2, e3⟩ : putE room l t = 30 ∧ putL room l t = l ∧ putX room l t = 0)
  obtain ⟨hg, h0, h1⟩ := rightE_ok he
  have hR := wright_any t A cap w hr (fun j hj => (hwf j hj).text) hl hT.utf
  obtain ⟨y, hy⟩ : ∃ y, (rightE t).2 = y := ⟨_, rfl⟩
  rw [he, hy] at hR
  have hce := good_cells hg
  have htl := total_le hce
  have HA := Lib.hid h
  have HR := Lib.hid hr
  have HT := Lib.hid hT
  have HW := Lib.hid hwf
  have HE := Lib.hid hce
  have hb : decide ((room : Int) - (usedA l : Int) < (totalA t : Int)) = true := decide_eq_true hf
  clear e1 e2 e3 hy hT hr hwf he hg hce hf h h0
  go_enter Tryd.func18, Tryd.ntmps18
  go_wp2_with fail
  refine hR.mono ?_
  rintro e w' ⟨rfl, hB⟩
  have HB := Lib.hid hB
  clear hB
  go_wp2_with fail
  go_loopw [8, 29] (fun s i wr => ∃ j : Nat, j ≤ t.length ∧ s = .int .i64 (totalA (t.take j) : Int) ∧ i = .int .i64 (j : Int) ∧ Hid (Below w.heap.size w wr)) (fun s i wr => t.length - (intOf i).toNat)
  case atStart => exact ⟨0, Nat.zero_le _, rfl, rfl, HB⟩
  case round =>
    obtain ⟨j, hj, rfl, rfl, hB⟩ := hrel
    by_cases hlt : j < t.length
    · obtain ⟨b, o, rfl, hc⟩ := HR.out j hlt
      obtain ⟨hc0, hc1, hc2⟩ := hc.below hB.out
      have hcw := Lib.hid (HW.out j hlt)
      have hce := Lib.hid (HE.out t[j] (List.getElem_mem _))
      have htk := Lib.hid (total_take hlt)
      have hle := total_take_le t (j + 1)
      rw [htk.out] at hle
      have hT1 := Lib.hid (HT.out.below hB.out)
      generalize totalA (t.take j) = S0 at *
      generalize t[j] = c at *
      go_wp2_with fail
      refine (cost_any c _ (hT1.out.below (below_one _ _)) hcw.out hce.out).mono ?_
      rintro e w' ⟨rfl, hb⟩
      have hB2 := Lib.hid (below_then hB.out (below_then (below_one _ _) hb))
      generalize costC c = S1 at *
      go_wp2
      go_roundw
      case rel => exact ⟨j + 1, by omega, by rw [htk.out]; go_num, by go_num, hB2⟩
      case measure => simp [intOf]; omega
    · obtain rfl : j = t.length := by omega
      rw [List.take_length]
      go_wp2_with fail
      refine (room_any _ O ba room l (HA.out.below hB.out)).mono ?_
      rintro e w' ⟨rfl, hb⟩
      have hB2 := Lib.hid (below_then hB.out hb)
      go_wp2
      go_ret2
      rw [H.out.1, H.out.2.1, H.out.2.2]
      exact ⟨rfl, Made.of_below HA.out hB2.out⟩
theorem open_info : (Tryd.prog.info? 106).map (fun i => (i.zero, i.size, i.bytes)) = some (some (.agg #[.int .i64 0, .int .i64 0, .string ⟨#[]⟩, .slice none 0 0, .int .i64 0]), 5, 64) := by kernel_rfl
def sliceLen : Value → Nat
  | .slice _ n _ => n
  | _ => 0
/-- The loop's state: what is made so far. -/
def PutNow (l0 : List ObjA) (t : List CellD) (j : Nat) (l : List ObjA) (st : List OpenA) (x : Int) : Prop :=
  (∃ o, PutInv l0 l st x (t.take j) o ∧ Good (t.drop j) o) ∧ (t.take j).foldl putStep (l0, [], 0) = (l, st, x)
/-- The inner loop's. -/
structure UpNow (lim : Nat) (l : List ObjA) (st : List OpenA) (x : Int) (r : List ObjA × List OpenA × Int) : Prop where
  wf : WfA l
  ok : ∀ p ∈ st, OpOk l p
  fx : FindOk l x
  used : usedA l + costs st ≤ lim
  lim_le : lim ≤ 262144
  res : upA l st x = r
theorem st_len {l : List ObjA} : ∀ {st : List OpenA}, (∀ p ∈ st, OpOk l p) → st.length ≤ costs st
  | [], _ => Nat.zero_le _
  | o :: st, h => by
    have k := h o (by simp)
    have h1 := cost_pos k.good (kids_big (by have := k.lt; have := k.want; omega))
    have h2 := st_len (st := st) (fun p hp => h p (by simp [hp]))
    rw [costs_cons, List.length_cons]
    omega
theorem up_now {lim : Nat} {l : List ObjA} {st : List OpenA} {c : CellD} {x : Int} (hw : WfA l) (ho : ∀ p ∈ st, OpOk l p) (he : cellE c = 0) (hk : ¬ 0 < kidsD c) (hu : usedA l + costs st + costC c ≤ lim) (hl : lim ≤ 262144) :
    UpNow lim (makeA l c []).1 st (makeA l c []).2 (putStep (l, st, x) c) := by
  have hk0 : kidsD c = 0 := by omega
  have e := makeA_ext l c []
  refine ⟨make_wf hw he (parts := []) (by simp [hk0]) (fun p hp => by cases hp), fun p hp => (ho p hp).ext e, make_find (parts := []) hw he (by omega), by rw [make_used he]; omega, hl, ?_⟩
  unfold putStep
  rw [if_neg hk]
theorem put_next {l l' : List ObjA} {t : List CellD} {j : Nat} {st : List OpenA} {x : Int} (h : PutNow l t j l' st x) (hj : j < t.length) (hu : usedA l + totalA t ≤ 262144) :
    PutNow l t (j + 1) (putStep (l', st, x) t[j]).1 (putStep (l', st, x) t[j]).2.1 (putStep (l', st, x) t[j]).2.2 ∧ WfA l' ∧ (∀ p ∈ st, OpOk l' p) ∧ usedA l' + costs st + costC t[j] ≤ usedA l + totalA t := by
  obtain ⟨⟨o, hI, hG⟩, hF⟩ := h
  rw [List.drop_eq_getElem_cons hj] at hG
  obtain ⟨g1, g2, g3⟩ := hG
  have ht := total_take_le t (j + 1)
  rw [total_take hj] at ht
  have hs := put_step (c := t[j]) hI g1 g2 (by rw [totalA_snoc]; omega)
  rw [← List.take_succ_eq_append_getElem hj] at hs
  refine ⟨⟨⟨_, hs, g3⟩, ?_⟩, hI.wf, hI.ok, by have := hI.used; omega⟩
  rw [fold_take hj, hF]
set_option maxRecDepth 10000 in
set_option maxHeartbeats 8000000 in
theorem put_good (w : World) (O : Nat → Prop) (ba room : Nat) (l : List ObjA) (t : List CellD) (A : Option Addr) (cap : Nat) (h : ArAt w O ba room l) (hT : TabsA w) (hr : Reads w A t) (hAO : ∀ g o, A = some ⟨g, o, none⟩ → ¬ O g) (hwf : ∀ j (h : j < t.length), WfC t[j]) (hl : t.length ≤ 1000000000000000) (he : (rightE t).1 = 0) (hf : ¬ (room : Int) - (usedA l : Int) < (totalA t : Int)) :
    Calls Tryd.prog 18 #[.pointer (some ⟨ba, 0, none⟩), .slice A t.length cap] w fun e w' => e = .returned (.tuple #[.int .u64 (putX room l t), .int .i64 (putE room l t)]) ∧ Made w w' O ba room (putL room l t) := by
  have e1 : putE room l t = 0 := by unfold putE; rw [if_neg (by omega), if_neg hf]
  have e2 : putL room l t = (putF l t).1 := by unfold putL; rw [e1, if_pos rfl]
  have e3 : putX room l t = (putF l t).2.2 := by unfold putX; rw [e1, if_pos rfl]
  have H := Lib.hid (⟨e1, e2, e3⟩ : putE room l t = 0 ∧ putL room l t = (putF l t).1 ∧ putX room l t = (putF l t).2.2)
  obtain ⟨hg, h0, h1⟩ := rightE_ok he
  have hR := wright_any t A cap w hr (fun j hj => (hwf j hj).text) hl hT.utf
  obtain ⟨y, hy⟩ : ∃ y, (rightE t).2 = y := ⟨_, rfl⟩
  rw [he, hy] at hR
  have hce := good_cells hg
  have htl := total_le hce
  have hlims := h.lims
  have hwfa := h.wf
  have HA := Lib.hid h
  have HR := Lib.hid hr
  have HT := Lib.hid hT
  have HW := Lib.hid hwf
  have HE := Lib.hid hce
  have HG := Lib.hid hg
  have HF := Lib.hid hwfa
  have HAO := Lib.hid hAO
  have hb : decide ((room : Int) - (usedA l : Int) < (totalA t : Int)) = false := decide_eq_false hf
  have hroom : usedA l + totalA t ≤ room := by omega
  have h3w : 3 ≤ w.heap.size := by
    obtain ⟨_, _, _, _, hq⟩ := h
    have := hq.lim _ hq.oba
    omega
  clear e1 e2 e3 hy hT hr hwf he hg hce hf h h0 hwfa hAO
  go_enter Tryd.func18, Tryd.ntmps18
  go_wp2_with fail
  refine hR.mono ?_
  rintro e w' ⟨rfl, hB⟩
  have HB := Lib.hid hB
  clear hB hR
  go_wp2_with fail
  go_loopw [8, 29] (fun s i wr => ∃ j : Nat, j ≤ t.length ∧ s = .int .i64 (totalA (t.take j) : Int) ∧ i = .int .i64 (j : Int) ∧ Hid (Below w.heap.size w wr)) (fun s i wr => t.length - (intOf i).toNat)
  case atStart => exact ⟨0, Nat.zero_le _, rfl, rfl, HB⟩
  case round =>
    obtain ⟨j, hj, rfl, rfl, hB⟩ := hrel
    by_cases hlt : j < t.length
    · obtain ⟨b, o, rfl, hc⟩ := HR.out j hlt
      obtain ⟨hc0, hc1, hc2⟩ := hc.below hB.out
      have hcw := Lib.hid (HW.out j hlt)
      have hce := Lib.hid (HE.out t[j] (List.getElem_mem _))
      have htk := Lib.hid (total_take hlt)
      have hle := total_take_le t (j + 1)
      rw [htk.out] at hle
      have hT1 := Lib.hid (HT.out.below hB.out)
      generalize totalA (t.take j) = S0 at *
      generalize t[j] = c at *
      go_wp2_with fail
      refine (cost_any c _ (hT1.out.below (below_one _ _)) hcw.out hce.out).mono ?_
      rintro e w' ⟨rfl, hb⟩
      have hB2 := Lib.hid (below_then hB.out (below_then (below_one _ _) hb))
      generalize costC c = S1 at *
      go_wp2
      go_roundw
      case rel => exact ⟨j + 1, by omega, by rw [htk.out]; go_num, by go_num, hB2⟩
      case measure => simp [intOf]; omega
    · obtain rfl : j = t.length := by omega
      rw [List.take_length]
      go_wp2_with fail
      refine (room_any _ O ba room l (HA.out.below hB.out)).mono ?_
      rintro e w1 ⟨rfl, hb1⟩
      have hB2 := Lib.hid (below_then hB.out hb1)
      clear HB hB hb1 hlt hj htl
      go_wp2_with fail
      clear hb
      go_loopw [11, 12, 44] (fun vS x i wr => ∃ (j : Nat) (O' : Nat → Prop) (l' : List ObjA) (st : List (OpenA × Value)) (xx : Int), j ≤ t.length ∧ x = .int .u64 xx ∧ i = .int .i64 (j : Int) ∧ Hid (PutRep w wr O O' ba room l' st vS) ∧ Hid (PutNow l t j l' (st.reverse.map Prod.fst) xx)) (fun vS x i wr => t.length - (intOf i).toNat)
      case atStart => exact ⟨0, O, l, [], 0, Nat.zero_le _, rfl, rfl, Lib.hid (PutRep.start HA.out hB2.out), Lib.hid ⟨⟨1, ⟨Ext.refl l, HF.out, fun p hp => (by cases hp), by simp [costs, totalA], .inl ⟨rfl, rfl, rfl⟩⟩, by simpa using HG.out⟩, rfl⟩⟩
      case round =>
        obtain ⟨j, O', l', st, xx, hj, rfl, rfl, hP, hN⟩ := hrel
        by_cases hlt : j < t.length
        · have hRr := HR.out.fr hP.out.fr HAO.out
          obtain ⟨b, o, rfl, hc⟩ := hRr j hlt
          obtain ⟨hc0, hc1, hc2⟩ := hc
          have hcw := Lib.hid (HW.out j hlt)
          have hce := Lib.hid (HE.out t[j] (List.getElem_mem _))
          have hN2 := Lib.hid (put_next (l := l) hN.out hlt (by omega))
          have hTr := Lib.hid (show TabsA wr from HT.out.fr hP.out.fr (fun k hk => (HA.out.lim k hk).1))
          have hk5 : t[j].kind = 5 → kidsD t[j] = t[j].n.toNat ∧ 0 ≤ t[j].n := fun h5 => by
            have := cellE_tuple hce.out h5
            exact ⟨by unfold kidsD; rw [if_neg (by omega), if_pos ⟨h5, this⟩], this.1⟩
          have hk7 : t[j].kind = 7 → kidsD t[j] = 2 := fun h7 => by unfold kidsD; rw [if_pos h7]
          have hk0 : t[j].kind ≠ 5 → t[j].kind ≠ 7 → kidsD t[j] = 0 := fun h5 h7 => by unfold kidsD; rw [if_neg h7, if_neg (fun e => h5 e.1)]
          have hkd := kidsD_le t[j]
          clear hRr
          obtain ⟨c, hcc⟩ : ∃ c, t[j] = c := ⟨_, rfl⟩
          rw [hcc] at hc0 hc1 hc2 hcw hce hk5 hk7 hk0 hN2 hkd
          have HCC := Lib.hid hcc
          clear hcc
          go_wp2_with fail
          go_step3
          go_upto_block 4 with (fail)
          go_cut [15] (fun s15 wx => s15 = .int .i64 (kidsD c : Int) ∧ wx = wr.alloc (.cells #[.int .i64 c.kind, .int .i64 c.n, .string c.text] 40))
          case first =>
            by_cases h5 : c.kind = 5
            · have e5 : (c.kind == 5) = true := by rw [h5]; rfl
              obtain ⟨k1, k2⟩ := hk5 h5
              have K1 := Lib.hid k1
              clear hk5 hk7 hk0 h5 k1
              go_wp2_with fail
              go_meet
              exact ⟨by rw [K1.out, Int.toNat_of_nonneg k2], rfl⟩
            · have e5 : (c.kind == 5) = false := beq_eq_false_iff_ne.2 h5
              by_cases h7 : c.kind = 7
              · have e7 : (c.kind == 7) = true := by rw [h7]; rfl
                have K1 := Lib.hid (hk7 h7)
                clear hk5 hk7 hk0 h5 h7
                go_wp2_with fail
                go_meet
                exact ⟨by rw [K1.out]; rfl, rfl⟩
              · have e7 : (c.kind == 7) = false := beq_eq_false_iff_ne.2 h7
                have K1 := Lib.hid (hk0 h5 h7)
                clear hk5 hk7 hk0 h5 h7
                go_wp2_with fail
                go_meet
                exact ⟨by rw [K1.out]; rfl, rfl⟩
          case rest =>
            obtain ⟨rfl, rfl⟩ := hcut
            have hB1 := below_one wr (.cells #[.int .i64 c.kind, .int .i64 c.n, .string c.text] 40)
            have f0 : (wr.alloc (.cells #[.int .i64 c.kind, .int .i64 c.n, .string c.text] 40)).cell? ⟨wr.heap.size, 0, none⟩ = some (.int .i64 c.kind) := by go_cell
            have f1 : (wr.alloc (.cells #[.int .i64 c.kind, .int .i64 c.n, .string c.text] 40)).cell? ⟨wr.heap.size, 1, none⟩ = some (.int .i64 c.n) := by go_cell
            have f2 : (wr.alloc (.cells #[.int .i64 c.kind, .int .i64 c.n, .string c.text] 40)).cell? ⟨wr.heap.size, 2, none⟩ = some (.string c.text) := by go_cell
            have hP1 := Lib.hid (hP.out.below hB1)
            have hT1 := Lib.hid (hTr.out.below hB1)
            have hs1 := hP1.out.fr.size
            obtain ⟨w1, hw1⟩ : ∃ W, wr.alloc (.cells #[.int .i64 c.kind, .int .i64 c.n, .string c.text] 40) = W := ⟨_, rfl⟩
            rw [hw1] at f0 f1 f2 hP1 hT1 hs1 ⊢
            clear hk5 hk7 hk0 hc0 hc1 hc2 hP hTr hB1 hw1
            have hsl := st_len (fun p hp => hN2.out.2.2.1 p hp)
            rw [List.length_map, List.length_reverse] at hsl
            have hus := hN2.out.2.2.2
            by_cases hk : 0 < kidsD c
            · have hkb : decide ((0 : Int) < (kidsD c : Int)) = true := decide_eq_true (by omega)
              have hN3 := hN2.out.1
              have hps : putStep (l', st.reverse.map Prod.fst, xx) c = (l', ⟨c, [], kidsD c⟩ :: st.reverse.map Prod.fst, xx) := by unfold putStep; rw [if_pos hk]
              rw [hps] at hN3
              have HN3 := Lib.hid hN3
              obtain ⟨K, hK⟩ : ∃ K, kidsD c = K := ⟨_, rfl⟩
              rw [hK] at HN3 hkb hk ⊢
              obtain ⟨AS, cS, rfl⟩ := row_slice hP1.out.row
              obtain ⟨i0, hi, hz0, hz1, hz2⟩ := info_parts open_info
              have hA3 : w.heap.size ≤ (w1.alloc (.cells #[.int .i64 c.kind, .int .i64 c.n, .string c.text, .slice none 0 0, .int .i64 (K : Int)] 106)).heap.size := by rw [World.size_alloc]; omega
              have hA1 : st.length + 1 ≤ maxLen := by unfold maxLen; omega
              have hA2 : (st.length + 1) * 64 ≤ 140737488355328 := by omega
              clear hps hN3 hK hN2 hcw hce
              go_wp2_with (at_builtin
                           refine wpList_append_lies _ rfl _ _ _ rfl w.heap.size 106 i0 _ 5 64 Tryd.underlying104 hi hz0 hz1 hz2 rfl (by omega) (.slice AS st.length cS) st.length (encSt st) rfl (hP1.out.row.alloc _) ⟨w1.heap.size, 0, none⟩ 1 1 [.int .i64 c.kind, .int .i64 c.n, .string c.text, .slice none 0 0, .int .i64 (K : Int)] rfl rfl (World.news_of_block (cs := #[.int .i64 c.kind, .int .i64 c.n, .string c.text, .slice none 0 0, .int .i64 (K : Int)]) (t := 106) (fr := (0, 0)) (heap_alloc_new w1 _)) one5 (by omega) hA1 hA2 hA3 (w1.heap.size + 1) (World.size_alloc _ _) ?_
                           intro g2 cap2 w8 hown8 hgrow8 hat8 hlt8)
              go_roundw
              case rel =>
                refine ⟨j + 1, O', l', st ++ [(⟨c, [], K⟩, .slice none 0 0)], xx, by omega, rfl, by go_num, Lib.hid ?_, Lib.hid ?_⟩
                · exact hP1.out.push (below_one w1 _) hgrow8 rfl hown8 (hat8.imp id (fun e => by rw [World.size_alloc]; omega))
                · have e : (st ++ [((⟨c, [], K⟩ : OpenA), Value.slice none 0 0)]).reverse.map Prod.fst = ⟨c, [], K⟩ :: st.reverse.map Prod.fst := by simp
                  rw [e]
                  exact HN3.out
              case measure => simp [intOf]; omega
            · have hkb : decide ((0 : Int) < (kidsD c : Int)) = false := decide_eq_false (by omega)
              have HUp := Lib.hid (up_now (lim := room) hN2.out.2.1 hN2.out.2.2.1 hce.out hk (by omega) (by omega) (x := xx))
              have HN3 := Lib.hid hN2.out.1
              have hmk := make_any w1 O' ba room l' c [] none 0 hP1.out.ar hT1.out hcw.out hce.out (WReads.nil _ _) (by simp; omega) (fun p hp => by cases hp) (by omega)
              obtain ⟨K, hK⟩ : ∃ K, kidsD c = K := ⟨_, rfl⟩
              rw [hK] at hkb hk ⊢
              clear hK hN2 hcw hce
              go_wp2_with fail
              refine hmk.mono ?_
              rintro e w2 ⟨rfl, hM⟩
              obtain ⟨O2, hP2⟩ := hP1.out.made hM
              have HP2 := Lib.hid hP2
              generalize putStep (l', st.reverse.map Prod.fst, xx) c = r at HUp HN3
              generalize (makeA l' c []).1 = l2 at *
              generalize (makeA l' c []).2 = x2 at *
              clear hmk hM hP2 f0 f1 f2 hP1 hT1 hs1 hkb
              go_wp2_with fail
              go_step3
              go_wp2_with fail
              go_loopw [11, 12] (fun vS x wr => ∃ (O3 : Nat → Prop) (l3 : List ObjA) (st3 : List (OpenA × Value)) (x3 : Int), x = .int .u64 x3 ∧ Hid (PutRep w wr O O3 ba room l3 st3 vS) ∧ Hid (UpNow room l3 (st3.reverse.map Prod.fst) x3 r)) (fun vS x wr => sliceLen vS)
              case atStart => exact ⟨O2, l2, st, x2, rfl, HP2, HUp⟩
              case round =>
                obtain ⟨O3, l3, st3, x3, rfl, hP3, hU3⟩ := hrel
                clear HUp HP2 hsl
                rcases List.eq_nil_or_concat st3 with rfl | ⟨st4, p, rfl⟩
                · obtain ⟨AS, cS, hvS⟩ := row_slice hP3.out.row
                  rw [List.length_nil] at hvS
                  subst hvS
                  have hr0 : r = (l3, [], x3) := hU3.out.res.symm
                  clear hU3
                  go_wp2
                  simp only [Exit.noGoto_normal]
                  go_wp2
                  go_roundw
                  case rel =>
                    refine ⟨j + 1, O3, l3, [], x3, by omega, rfl, by go_num, hP3, ?_⟩
                    rw [hr0] at HN3
                    exact HN3
                  case measure => simp [intOf]; omega
                · obtain ⟨o4, v4⟩ := p
                  rw [List.concat_eq_append] at hP3 hU3
                  obtain ⟨g, cp, rfl, hcp, q0, q1, q2, q3, q4, qf⟩ := hP3.out.last
                  have hrev : (st4 ++ [((o4, v4) : OpenA × Value)]).reverse.map Prod.fst = o4 :: st4.reverse.map Prod.fst := by simp
                  have hU4 := hU3.out
                  rw [hrev] at hU4
                  have HU4 := Lib.hid hU4
                  have ko := hU4.ok o4 (by simp)
                  have hlt4 := ko.lt
                  have hwant : o4.want ≤ 255 := by rw [ko.want]; exact kidsD_le _
                  have hsl := st_len hU4.ok
                  rw [List.length_cons, List.length_map, List.length_reverse] at hsl
                  have hsl2 := hU4.used
                  have hrow4 := hP3.out.parts (o4, v4) (by simp)
                  obtain ⟨A4, c4, hv4⟩ := row_slice hrow4
                  simp only at hv4
                  subst hv4
                  have HR4 := Lib.hid hrow4
                  have hpp := hP3.out.pO (o4, _) (List.mem_append_right _ (List.mem_singleton.2 rfl))
                  have hne4 : ∀ k, (Value.slice A4 o4.parts.length c4).ownBlock = some k → k ≠ g := fun k hk e => (hpp k hk).2 (by rw [e]; rfl)
                  obtain ⟨m, hm⟩ : ∃ m, st4.length + 1 = m := ⟨_, rfl⟩
                  have hs4 : st4.length = m - 1 := by omega
                  rw [hs4] at q0 q1 q2 q3 q4 qf
                  have HP4 : Hid (PutRep w wr O O3 ba room l3 (st4 ++ [(o4, .slice A4 o4.parts.length c4)]) (.slice (some ⟨g, 0, none⟩) (st4.length + 1) cp)) := Lib.hid hP3.out
                  have HM := Lib.hid hm
                  have g1 : decide ((0 : Int) < (m : Int)) = true := decide_eq_true (by omega)
                  have g2 : 0 < m := by omega
                  have w3 : IntKind.i64.wrap ((m : Int) - 1) = (m : Int) - 1 := by rw [IntKind.wrap_i64]; omega
                  have b2 : (0 : Int) ≤ (m : Int) - 1 := by omega
                  have b2' : (1 : Int) ≤ (m : Int) := by omega
                  have d2 : (m : Int) - 1 < (m : Int) := by omega
                  have t2 : ((m : Int) - 1).toNat = m - 1 := by omega
                  have d3 : m - 1 < m := by omega
                  have hcp' : m ≤ cp := by omega
                  have hs3 := hP3.out.fr.size
                  obtain ⟨n4, hn4⟩ : ∃ n, o4.parts.length = n := ⟨_, rfl⟩
                  have HN4 := Lib.hid hn4
                  obtain ⟨j0, ji, jz0, jz1, jz2⟩ := info_parts word_info
                  have hA1 : n4 + 1 ≤ maxLen := by unfold maxLen; omega
                  have hA2 : (n4 + 1) * 8 ≤ 140737488355328 := by omega
                  have hA3 : w.heap.size ≤ (wr.alloc (.cells #[.int .u64 x3] 27)).heap.size := by rw [World.size_alloc]; omega
                  rw [hn4] at q3 HR4 hne4 hlt4
                  rw [hm]
                  clear hP3 hU3 hrev hU4 ko hsl hsl2 hrow4 hpp hm hs4 hn4
                  go_wp2_with (at_builtin
                               refine wpList_append_lies _ rfl _ _ _ rfl w.heap.size 27 j0 _ 1 8 Tryd.underlying31 ji jz0 jz1 jz2 rfl (by omega) (.slice A4 n4 c4) n4 (encW o4.parts) rfl (HR4.out.alloc _) ⟨wr.heap.size, 0, none⟩ 1 1 [.int .u64 x3] rfl rfl (World.news_of_block (cs := #[.int .u64 x3]) (t := 27) (fr := (0, 0)) (heap_alloc_new wr _)) (by simp [Value.oneCell']) (by omega) hA1 hA2 hA3 (wr.heap.size + 1) (World.size_alloc _ _) ?_
                               intro g2 cap2 w6 hown6 hgrow6 hat6 hlt6
                               have t5 := hgrow6.cell (cell_below (below_one wr (.cells #[.int .u64 x3] 27)) q3) (fun e => hne4 g e.symm rfl)
                               have t6 : w6.frozen? ⟨g, (m - 1) * 5 + 3, none⟩ = false := (World.frozen?_of_block (hgrow6.block g (by rw [World.size_alloc]; exact Nat.lt_succ_of_lt (cell_lt q3)) (fun e => hne4 g e.symm rfl))).trans (by rw [World.frozen?_of_block (a := ⟨g, (m - 1) * 5 + 3, none⟩) (Below.heap_alloc wr _ g (cell_lt q3))]; exact qf))
                  have hP5 : PutRep w (w6.setCell ⟨g, (m - 1) * 5 + 3, none⟩ (.slice (some ⟨g2, 0, none⟩) (n4 + 1) cap2)) O O3 ba room l3 (st4 ++ [(⟨o4.cell, o4.parts ++ [x3], o4.want⟩, .slice (some ⟨g2, 0, none⟩) (n4 + 1) cap2)]) (.slice (some ⟨g, 0, none⟩) m cp) := by
                    have e1 := HN4.out
                    have e2 := HM.out
                    subst e1
                    subst e2
                    exact HP4.out.take (below_one wr _) hgrow6 hown6 (hat6.imp id (fun e => by rw [World.size_alloc]; omega))
                  obtain ⟨w9, hw9⟩ : ∃ W, w6.setCell ⟨g, (m - 1) * 5 + 3, none⟩ (.slice (some ⟨g2, 0, none⟩) (n4 + 1) cap2) = W := ⟨_, rfl⟩
                  rw [hw9] at hP5 ⊢
                  have HP5 := Lib.hid hP5
                  obtain ⟨g', cp', e', _, p0, p1, p2, p3, p4, pf⟩ := hP5.last
                  have hs5 : st4.length = m - 1 := by have := HM.out; omega
                  have ⟨eg, ecp⟩ : g' = g ∧ cp' = cp := by
                    simp at e'
                    exact ⟨e'.1.symm, e'.2.2.symm⟩
                  subst eg
                  subst ecp
                  rw [hs5] at p0 p1 p2 p3 p4
                  clear hw9 hP5 e' hs5 t5 t6 hgrow6 hown6 hat6 hlt6 hA1 hA2 hA3 q0 q1 q2 q3 q4 qf pf HP4 HR4 hne4
                  by_cases hl : n4 + 1 < o4.want
                  · have hlb : decide (((n4 : Int) + 1) < (o4.want : Int)) = true := decide_eq_true (by omega)
                    go_wp2_with fail
                    go_quiet (fail)
                    go_wp2
                    simp only [Exit.noGoto_normal]
                    go_wp2
                    go_roundw
                    case rel =>
                      refine ⟨j + 1, O3, l3, st4 ++ [(⟨o4.cell, o4.parts ++ [x3], o4.want⟩, .slice (some ⟨g2, 0, none⟩) (n4 + 1) cap2)], x3, by omega, rfl, by go_num, Lib.hid (HP5.out.below (below_drewA (Below.refl _ _) _)), ?_⟩
                      have hr0 := HU4.out.res
                      unfold upA at hr0
                      rw [if_pos (by rw [HN4.out]; exact hl)] at hr0
                      have e : (st4 ++ [((⟨o4.cell, o4.parts ++ [x3], o4.want⟩ : OpenA), Value.slice (some ⟨g2, 0, none⟩) (n4 + 1) cap2)]).reverse.map Prod.fst = ⟨o4.cell, o4.parts ++ [x3], o4.want⟩ :: st4.reverse.map Prod.fst := by simp
                      rw [e]
                      rw [← hr0] at HN3
                      exact HN3
                    case measure => simp [intOf]; omega
                  · have hlb : decide (((n4 : Int) + 1) < (o4.want : Int)) = false := decide_eq_false (by omega)
                    go_wp2_with fail
                    go_quiet (fail)
                    go_wp2_with fail
                    have hPa := HP5.out.below (below_drewA (Below.refl w9.heap.size w9) nq)
                    have p0' : (w9.drewN nq).cell? ⟨g', (m - 1) * 5, none⟩ = some (.int .i64 o4.cell.kind) := p0
                    have p1' : (w9.drewN nq).cell? ⟨g', (m - 1) * 5 + 1, none⟩ = some (.int .i64 o4.cell.n) := p1
                    have p2' : (w9.drewN nq).cell? ⟨g', (m - 1) * 5 + 2, none⟩ = some (.string o4.cell.text) := p2
                    have p3' : (w9.drewN nq).cell? ⟨g', (m - 1) * 5 + 3, none⟩ = some (.slice (some ⟨g2, 0, none⟩) (n4 + 1) cap2) := p3
                    obtain ⟨wa, hwa⟩ : ∃ W, w9.drewN nq = W := ⟨_, rfl⟩
                    rw [hwa] at hPa p0' p1' p2' p3' ⊢
                    have hlim := HU4.out.lim_le
                    have US := up_step HU4.out.wf HU4.out.ok HU4.out.fx (by have := HU4.out.used; omega) (by rw [HN4.out]; exact hl)
                    have hr0 := HU4.out.res
                    unfold upA at hr0
                    rw [if_neg (by rw [HN4.out]; exact hl)] at hr0
                    have hTa : TabsA wa := HT.out.fr hPa.fr (fun k hk => (HA.out.lim k hk).1)
                    have hlen : (o4.parts ++ [x3]).length = n4 + 1 := by rw [List.length_append, HN4.out, List.length_singleton]
                    have hrw := hPa.parts _ (List.mem_append_right _ (List.mem_singleton.2 rfl))
                    have k4 := HU4.out.ok o4 (by simp)
                    have hu4 : usedA l3 + costC o4.cell ≤ room := by have := HU4.out.used; rw [costs_cons] at this; omega
                    have hmk : ∀ W, Below wa.heap.size wa W → Calls Tryd.prog 59 #[.pointer (some ⟨ba, 0, none⟩), .agg #[.int .i64 o4.cell.kind, .int .i64 o4.cell.n, .string o4.cell.text], .slice (some ⟨g2, 0, none⟩) (n4 + 1) cap2] W fun e w' => e = .returned (.int .u64 (makeA l3 o4.cell (o4.parts ++ [x3])).2) ∧ Made W w' O3 ba room (makeA l3 o4.cell (o4.parts ++ [x3])).1 := fun W hB => by
                      have hrw' := row_below hrw hB
                      simp only [] at hrw'
                      have hWr : WReads W (some ⟨g2, 0, none⟩) (o4.parts ++ [x3]) := by
                        rw [← hlen] at hrw'
                        exact WReads.of_row hrw'
                      have q := make_any W O3 ba room l3 o4.cell (o4.parts ++ [x3]) (some ⟨g2, 0, none⟩) cap2 (hPa.ar.below hB) (hTa.below hB) (wfc_of_kids k4.good (by have := k4.lt; have := k4.want; omega)) k4.good hWr US.len US.parts hu4
                      rw [hlen] at q
                      exact q
                    have HPa := Lib.hid hPa
                    have HMK := Lib.hid hmk
                    have HUN : Hid (UpNow room (makeA l3 o4.cell (o4.parts ++ [x3])).1 (st4.reverse.map Prod.fst) (makeA l3 o4.cell (o4.parts ++ [x3])).2 r) := Lib.hid ⟨US.wf, US.ok, US.fx, by rw [US.used]; exact HU4.out.used, hlim, hr0⟩
                    clear hPa hTa hrw k4 hu4 hmk US hr0 hlim hwa HU4 p0 p1 p2 p3 p4 hlb
                    generalize makeA l3 o4.cell (o4.parts ++ [x3]) = r4 at HMK HUN
                    go_region_law (go_simp; go_at_call 59; refine (HMK.out _ ((Below.refl _ _).drew)).mono ?_; rintro e wc ⟨rfl, hM⟩)
                    all_goals go_wp2
                    all_goals
                      obtain ⟨O4, hP6⟩ := (HPa.out.below ((Below.refl _ _).drew)).made hM
                      have e2 := HM.out
                      subst e2
                      go_roundw
                      case rel => exact ⟨O4, r4.1, st4, r4.2, rfl, Lib.hid hP6.pop, HUN⟩
                      case measure => simp [sliceLen]
        · obtain rfl : j = t.length := by omega
          clear hB2 hlt hj
          go_wp2
          go_ret2
          rw [H.out.1, H.out.2.1, H.out.2.2]
          have hq := hN.out.2
          rw [List.take_length] at hq
          unfold putF
          rw [hq]
          exact ⟨rfl, hP.out.end_⟩
theorem put_any (w : World) (O : Nat → Prop) (ba room : Nat) (l : List ObjA) (t : List CellD) (A : Option Addr) (cap : Nat) (h : ArAt w O ba room l) (hT : TabsA w) (hr : Reads w A t) (hAO : t.length ≠ 0 → ∀ g o, A = some ⟨g, o, none⟩ → ¬ O g) (hwf : ∀ j (h : j < t.length), WfC t[j]) (hl : t.length ≤ 1000000000000000) :
    Calls Tryd.prog 18 #[.pointer (some ⟨ba, 0, none⟩), .slice A t.length cap] w fun e w' => e = .returned (.tuple #[.int .u64 (putX room l t), .int .i64 (putE room l t)]) ∧ Made w w' O ba room (putL room l t) := by
  by_cases he : (rightE t).1 = 0
  · by_cases hf : (room : Int) - (usedA l : Int) < (totalA t : Int)
    · exact put_full w O ba room l t A cap h hT hr hwf hl he hf
    · exact put_good w O ba room l t A cap h hT hr (hAO (rightE_ok he).2.1) hwf hl he hf
  · exact put_bad w O ba room l t A cap h hT hr hwf hl he
end Go.Proofs.YthgnihckeckaiaaDoor.Tm
