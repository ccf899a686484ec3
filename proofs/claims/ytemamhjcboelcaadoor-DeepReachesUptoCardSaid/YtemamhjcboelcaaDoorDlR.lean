/- DeepReaches: the walk. -/
import Derived.Test.YtemamhjcboelcaaDoorDlN
import Derived.Test.YtemamhjcboelcaaDoorDpL
import Derived.Test.YtemamhjcboelcaaDoorDpS
namespace Go.Proofs.YtemamhjcboelcaaDoor.Tm
open Go.RowKit
set_option linter.unusedVariables false
set_option linter.unusedSimpArgs false

theorem allFind_take {L : List ObjA} {R : List Int} {j : Nat} (h : j < R.length) : allFind L (R.take (j + 1)) = (allFind L (R.take j) && (findA L R[j]).isSome) := by
  unfold allFind
  rw [List.take_succ_eq_append_getElem h, List.all_append]
  simp only [List.all_cons, List.all_nil, Bool.and_true]
theorem addr_lt {w : World} {base n c : Nat} {e : TypeId} {size : Nat} {A : Option Addr} {xs : List Value} (h : w.ownsRow base e size (.slice A n c) n xs) : ∀ g o, A = some ⟨g, o, none⟩ → g < w.heap.size := by
  intro g o e
  subst e
  rcases h.2 with ⟨e, _⟩ | ⟨g', c', cur, e, _⟩
  · cases e
  · injection e with e1 _ _
    injection e1 with e1
    injection e1 with e1 e2 _
    subst e1
    subst e2
    exact row_lt h g rfl
set_option maxRecDepth 10000 in
set_option maxHeartbeats 8000000 in
theorem deepReaches_row (A : Option Addr) (cap : Nat) (ops : List Op4) (AN : Option Addr) (capN : Nat) (ns : List Int) (AR : Option Addr) (capR : Nat) (raw : List Int) (w : World) (hT : TabsA w) (hcap : ops.length ≤ cap) (hr : Script4 w A ops) (hk : ∀ op ∈ ops, Op4Ok op) (hl : ops.length ≤ 1000000000000000) (hcN : ns.length ≤ capN) (hrN : NReads w AN ns) (hxN : ∀ x ∈ ns, -9223372036854775808 ≤ x ∧ x < 9223372036854775808) (hlN : ns.length ≤ 1048576) (hcR : raw.length ≤ capR) (hrR : WReads w AR raw) (hxR : ∀ x ∈ raw, 0 ≤ x ∧ x < 18446744073709551616) (hlR : raw.length ≤ 1048576) :
    Calls Tryd.prog 6 #[.slice A ops.length cap, .slice AN ns.length capN, .slice AR raw.length capR] w fun e w' => e = .returned (.bool true) ∧ Below w.heap.size w w' := by
  have hmk := made4_any w 4000 ops A cap hT hr hk hl hcap (by omega)
  have HT := Lib.hid hT
  have HRN := Lib.hid hrN
  have HXN := Lib.hid hxN
  have HRR := Lib.hid hrR
  have HXR := Lib.hid hxR
  obtain ⟨i0, hi, hz0, hz1, hz2⟩ := info_parts word_info
  clear hT hr hk hrN hxN hrR hxR
  go_enter Tryd.func6, Tryd.ntmps6
  go_wp2_with fail
  refine hmk.mono ?_
  rintro e w1 ⟨ba, O, L, l, A1, c1, rfl, hM⟩
  have HM := Lib.hid hM
  have hll := hM.len
  have hwf := hM.ar.wf
  have hlims := hM.ar.lims
  have hlen := hwf.len
  have HWF := Lib.hid hwf
  have HN0 := Lib.hid (hM.base)
  clear hmk hM hwf
  go_wp2_with fail
  go_loopw [9, 29] (fun v i wr => ∃ (j : Nat) (rs : List Int), j ≤ ns.length ∧ rs.length = j ∧ i = .int .i64 (j : Int) ∧ Hid (HeldSt w1 wr rs v) ∧ Hid (∀ x ∈ rs, FindOk L x)) (fun v i wr => ns.length - (intOf i).toNat)
  case atStart => exact ⟨0, [], Nat.zero_le _, rfl, rfl, Lib.hid ⟨Below.refl _ _, row_nil _ _ _ _⟩, Lib.hid (fun x hx => (by cases hx))⟩
  case round =>
    obtain ⟨j, rs, hj, hrj, rfl, hS, hX⟩ := hrel
    obtain ⟨Av, cv, hv⟩ := row_slice hS.out.row
    rw [hrj] at hv
    subst hv
    have HRJ := Lib.hid hrj
    have HROW := Lib.hid (show wr.ownsRow w1.heap.size 27 1 (.slice Av j cv) j (encW rs) by
      have := hS.out.row
      rw [hrj] at this
      exact this)
    have hszr := hS.out.base.size
    clear hrj
    by_cases hlt : j < ns.length
    · obtain ⟨g, o, hAN, q0⟩ := (HRN.out.below (below_then HN0.out hS.out.base)) j hlt
      subst hAN
      have hnr := HXN.out ns[j] (List.getElem_mem hlt)
      obtain ⟨n0, hn0⟩ : ∃ n, ns[j] = n := ⟨_, rfl⟩
      rw [hn0] at q0 hnr
      have hj1 : (j : Int) < (ns.length : Int) := by omega
      have hj0 : (0 : Int) ≤ (j : Int) := Int.natCast_nonneg _
      have hbl : decide ((j : Int) < (ns.length : Int)) = true := decide_eq_true hj1
      have hpk := pick_any wr l A1 c1 n0 (HM.out.rd.below hS.out.base) (by omega) hnr
      clear hn0
      go_wp2_with fail
      refine hpk.mono ?_
      rintro e wq ⟨y, rfl, hy, hw⟩
      subst hw
      have HY := Lib.hid (pick_ok HM.out.ok hy)
      clear hpk hy q0
      obtain ⟨R, hR⟩ : ∃ R, rs ++ raw = R := ⟨_, rfl⟩
      have hRl0 : R.length = j + raw.length := by rw [← hR, List.length_append, HRJ.out]
      have HRL := Lib.hid hRl0
      have hRb : R.length ≤ 2097152 := by omega
      clear hRl0
      go_wp2_with (at_builtin
                   refine wpList_append_own_at _ rfl (.tmp 33) (.tmp 37) _ rfl w1.heap.size 27 i0 (.int .u64 0) 1 8 Tryd.underlying31 hi hz0 hz1 hz2 rfl (by decide) (.slice Av j cv) j (encW rs) rfl (HROW.out.alloc _) ⟨wq.heap.size, 0, none⟩ 1 1 [.int .u64 y] rfl rfl (cell_one_new _ _ _) (by simp [Value.oneCell']) (by unfold maxLen; omega) (by omega) (by rw [World.size_alloc]; omega) ?_
                   intro v5 w5 hown5 hgrow5 hnil5 hat5)
      have HS5 := Lib.hid (show HeldSt w1 w5 (rs ++ [y]) v5 from ⟨below_grown (below_alloc' hS.out.base _) hgrow5 (row_base HROW.out), by rw [List.length_append, List.length_singleton, HRJ.out, encW_snoc]; exact hown5⟩)
      go_roundw
      case rel => exact ⟨j + 1, rs ++ [y], hlt, by rw [List.length_append, List.length_singleton, HRJ.out], by go_num, HS5, Lib.hid (fun x hx => by
        rcases List.mem_append.1 hx with hx | hx
        · exact hX.out x hx
        · rw [List.mem_singleton.1 hx]; exact HY.out)⟩
      case measure => simp [intOf]; omega
    · have hbl : decide ((j : Int) < (ns.length : Int)) = false := decide_eq_false (by omega)
      have hSrc := Lib.hid (Src.of_wreads (HRR.out.below (below_then HN0.out hS.out.base)))
      obtain ⟨R, hR⟩ : ∃ R, rs ++ raw = R := ⟨_, rfl⟩
      have hRl0 : R.length = j + raw.length := by rw [← hR, List.length_append, HRJ.out]
      have HRL := Lib.hid hRl0
      have hRb : R.length ≤ 2097152 := by omega
      clear hRl0
      go_wp2_with (at_builtin
                   refine wpList_app _ rfl (.tmp 40) (.tmp 41) _ rfl w1.heap.size 27 i0 (.int .u64 0) 1 8 Tryd.underlying31 hi hz0 hz1 hz2 rfl (by decide) (.slice Av j cv) j (encW rs) rfl HROW.out AR raw.length capR (encW raw) rfl hSrc.out (by unfold maxLen; omega) (by omega) hszr ?_
                   intro v5 w5 hown5 hgrow5 hat5
                   rw [← HRL.out] at hown5
                   obtain ⟨A5, c5, rfl⟩ := row_slice hown5)
      have hRrow : w5.ownsRow w1.heap.size 27 1 (.slice A5 R.length c5) R.length (encW R) := by
        rw [← hR] at hown5 ⊢
        have e : encW (rs ++ raw) = encW rs ++ encW raw := by simp [encW]
        rw [e]
        exact hown5
      have hRx : ∀ x ∈ R, 0 ≤ x ∧ x < 18446744073709551616 := by
        intro x hx
        rw [← hR] at hx
        rcases List.mem_append.1 hx with hx | hx
        · exact (hX.out x hx).2
        · exact HXR.out x hx
      have hB5 : Below w1.heap.size w1 w5 := below_grown hS.out.base hgrow5 (row_base HROW.out)
      have HRD := Lib.hid (WReads.of_row hRrow)
      have HRX := Lib.hid hRx
      have HAL := Lib.hid (addr_lt hRrow)
      have HB5 := Lib.hid hB5
      have HBW := Lib.hid (below_then HN0.out hB5)
      have HA5 := Lib.hid (HM.out.ar.below hB5)
      clear hR hRrow hRx hB5 hown5 hgrow5 hat5 hSrc hS hX HROW HRJ hj hszr
      go_wp2_with fail
      go_loopw [13, 45] (fun s13 i wr => ∃ j : Nat, j ≤ R.length ∧ s13 = .bool (!allFind L (R.take j)) ∧ i = .int .i64 (j : Int) ∧ Hid (Below w5.heap.size w5 wr)) (fun s13 i wr => R.length - (intOf i).toNat)
      case atStart => exact ⟨0, Nat.zero_le _, by simp [allFind], rfl, Lib.hid (Below.refl _ _)⟩
      case round =>
        obtain ⟨j, hj, rfl, rfl, hB⟩ := hrel
        by_cases hlt : j < R.length
        · obtain ⟨g, o, hAe, q0⟩ := (HRD.out.below hB.out) j hlt
          subst hAe
          have hxr := HRX.out R[j] (List.getElem_mem hlt)
          have HTK := Lib.hid (allFind_take (L := L) hlt)
          obtain ⟨x, hx⟩ : ∃ x, R[j] = x := ⟨_, rfl⟩
          rw [hx] at q0 hxr HTK
          have hce := acell_any wr O ba 4000 L x hxr.1 hxr.2 (HA5.out.below hB.out)
          have hse := seen_is (L := L) x
          obtain ⟨f, hf⟩ : ∃ f, (findA L x).isSome = f := ⟨_, rfl⟩
          rw [hf] at hse HTK
          have heb : (errS (seenA L x) != 0) = !f := by
            cases hs : seenA L x with
            | none => rw [hs] at hse; subst hse; rfl
            | some r => rw [hs] at hse; subst hse; rfl
          obtain ⟨cc, hcc⟩ : ∃ c, cellS (seenA L x) = c := ⟨_, rfl⟩
          obtain ⟨er, her⟩ : ∃ er, errS (seenA L x) = er := ⟨_, rfl⟩
          rw [hcc, her] at hce
          rw [her] at heb
          simp only [CellD.agg] at hce
          have hj1 : (j : Int) < (R.length : Int) := by omega
          have hj0 : (0 : Int) ≤ (j : Int) := Int.natCast_nonneg _
          have hbl : decide ((j : Int) < (R.length : Int)) = true := decide_eq_true hj1
          obtain ⟨g0, hg0⟩ : ∃ g, allFind L (R.take j) = g := ⟨_, rfl⟩
          rw [hg0] at HTK ⊢
          clear hx hse hf hcc her hg0
          cases g0 <;> cases f
          all_goals
            simp only [Bool.not_false, Bool.not_true, Bool.false_and, Bool.true_and] at HTK heb ⊢
            go_wp2_with fail
            refine hce.mono ?_
            rintro e w6 ⟨rfl, hb6⟩
            have HB6 := Lib.hid (below_alloc' (below_then hB.out hb6) (.cells #[.int .i64 cc.kind, .int .i64 cc.n, .string cc.text] 40))
            clear hce hb6 q0
            go_wp2
            go_roundw
            case rel => exact ⟨j + 1, hlt, by first | (rw [HTK.out]; done) | (rw [HTK.out]; rfl) | (rw [HTK.out]; simp [heb]), by go_num, HB6⟩
            case measure => simp [intOf]; omega
        · obtain rfl : j = R.length := by omega
          rw [List.take_length]
          have hbl : decide ((R.length : Int) < (R.length : Int)) = false := decide_eq_false (by omega)
          have HBR := Lib.hid (below_then HBW.out hB.out)
          have hrc := reach_any wr O ba 4000 L R A5 c5 (HA5.out.below hB.out) (HT.out.below HBR.out) HM.out.cells (HRD.out.below hB.out) HRX.out (fun b o e => by have := HAL.out b o e; have := hB.out.size; omega) (by omega)
          clear hlt hj
          cases hall : allFind L R with
          | false =>
            have hre : reachE L R = 31 := by unfold reachE; rw [hall]; rfl
            have hrn : reachN L R = 0 := by unfold reachN; rw [hall]; rfl
            rw [hre, hrn] at hrc
            simp only [Bool.not_false]
            clear hre hrn hall
            go_wp2_with fail
            refine hrc.mono ?_
            rintro e w7 ⟨rfl, hb7⟩
            have hB7 := below_then HBR.out hb7
            have hak := awake_any w7 (HT.out.below hB7)
            clear hrc hb7
            go_wp2_with fail
            refine hak.mono ?_
            rintro e w8 ⟨rfl, hb8⟩
            go_wp2
            go_ret
            exact ⟨rfl, below_then hB7 hb8⟩
          | true =>
            have hre : reachE L R = 0 := by unfold reachE; rw [if_pos hall]
            have hrn : reachN L R = costsW L (R.foldl (visW L) []) := by unfold reachN; rw [if_pos hall]
            rw [hre, hrn] at hrc
            simp only [Bool.not_true]
            have hok : ∀ x ∈ R, FindOk L x := fun x hx => ⟨by
              unfold allFind at hall
              exact List.all_eq_true.1 hall x hx, HRX.out x hx⟩
            have HOK := Lib.hid hok
            clear hre hrn hall hok
            go_wp2_with fail
            refine hrc.mono ?_
            rintro e w7 ⟨rfl, hb7⟩
            have HB7 := Lib.hid (below_then HBR.out hb7)
            have HB57 := Lib.hid (below_then hB.out hb7)
            clear hrc hb7
            go_wp2_with fail
            go_loopw [10, 79] (fun v i wr => ∃ j : Nat, j ≤ R.length ∧ i = .int .i64 (j : Int) ∧ Hid (ObjSt w7 wr w7.heap.size (.slice none 0 0) ((R.take j).foldl (visW L) []) v)) (fun v i wr => R.length - (intOf i).toNat)
            case atStart => exact ⟨0, Nat.zero_le _, rfl, Lib.hid ⟨Fr.refl _ _, row_nil _ _ _ _, fun k hk => .inl hk⟩⟩
            case round =>
              obtain ⟨j, hj, rfl, hS⟩ := hrel
              have hBS := Lib.hid (hS.out.fr.below (Nat.le_refl _) (fun k hk => by simp [Value.ownBlock] at hk))
              have hmk := fold_ok HWF.out (R.take j) [] ⟨List.nodup_nil, fun x hx => (by cases hx)⟩ (fun p hp => HOK.out p (List.mem_of_mem_take hp))
              by_cases hlt : j < R.length
              · obtain ⟨g, o, hAe, q0⟩ := (HRD.out.below (below_then HB57.out hBS.out)) j hlt
                subst hAe
                have hxo := HOK.out R[j] (List.getElem_mem hlt)
                have HTK := Lib.hid (vfold_take (L := L) (m := []) hlt)
                obtain ⟨x, hx⟩ : ∃ x, R[j] = x := ⟨_, rfl⟩
                rw [hx] at q0 hxo HTK
                have hrec := objects_any HWF.out O ba 4000 w7.heap.size (by omega) (L.length + 1) x _ _ wr (by have := rkW_le L x; omega) hxo hmk (HA5.out.below (below_then HB57.out hBS.out)) (hS.out.away (fun k hk => by simp [Value.ownBlock] at hk) (fun k hk => by have := (HA5.out.lim k hk).2; have := HB57.out.size; omega)) hS.out.row (by have := hBS.out.size; omega)
                rw [← HTK.out] at hrec
                have hj1 : (j : Int) < (R.length : Int) := by omega
                have hj0 : (0 : Int) ≤ (j : Int) := Int.natCast_nonneg _
                have hbl : decide ((j : Int) < (R.length : Int)) = true := decide_eq_true hj1
                clear hx hmk HTK
                go_wp2_with fail
                refine hrec.mono ?_
                rintro e w8 ⟨v8, rfl, hS8⟩
                have HS8 := Lib.hid (hS.out.trans hS8)
                clear hrec hS8 q0
                go_wp2
                go_roundw
                case rel => exact ⟨j + 1, hlt, by go_num, HS8⟩
                case measure => simp [intOf]; omega
              · obtain rfl : j = R.length := by omega
                have hst := hS.out
                rw [List.take_length] at hst hmk
                have hml := hmk.len
                obtain ⟨F, hF⟩ : ∃ F, R.foldl (visW L) [] = F := ⟨_, rfl⟩
                rw [hF] at hst hmk hml ⊢
                obtain ⟨A8, c8, hv8⟩ := row_slice hst.row
                subst hv8
                have hBR8 := Lib.hid (below_then HB7.out hBS.out)
                have hco := costs_any wr O ba 4000 L F A8 c8 (HA5.out.below (below_then HB57.out hBS.out)) (HT.out.below hBR8.out) HM.out.cells (WReads.of_row hst.row) (fun x hx => (hmk.ok x hx).1) (by omega)
                have hbl : decide ((R.length : Int) < (R.length : Int)) = false := decide_eq_false (by omega)
                have hee : ((costsW L F : Int) == (costsW L F : Int)) = true := by simp
                clear hS hst hlt hj hmk hF
                go_wp2_with fail
                refine hco.mono ?_
                rintro e w9 ⟨rfl, hb9⟩
                have hB9 := below_then hBR8.out hb9
                have hak := awake_any w9 (HT.out.below hB9)
                clear hco hb9
                go_wp2_with fail
                refine hak.mono ?_
                rintro e w10 ⟨rfl, hb10⟩
                go_wp2
                go_ret
                exact ⟨rfl, below_then hB9 hb10⟩
end Go.Proofs.YtemamhjcboelcaaDoor.Tm
