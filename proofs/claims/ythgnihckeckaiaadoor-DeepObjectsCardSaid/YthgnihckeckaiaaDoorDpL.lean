/- The law's objects. -/
import Derived.Test.YthgnihckeckaiaaDoorDpJ
import Derived.Maps.AppendAt
namespace Go.Proofs.YthgnihckeckaiaaDoor.Tm
open Go.RowKit
set_option linter.unusedVariables false
set_option linter.unusedSimpArgs false

/-- Between the calls of objects. -/
structure ObjSt (w wr : World) (base : Nat) (v0 : Value) (m : List Int) (v : Value) : Prop where
  fr : Fr (fun k => v0.ownBlock = some k) w wr
  row : wr.ownsRow base 27 1 v m.length (encW m)
  own : ∀ k, v.ownBlock = some k → v0.ownBlock = some k ∨ w.heap.size ≤ k
theorem ObjSt.below {w wr w' : World} {base : Nat} {v0 v : Value} {m : List Int} (h : ObjSt w wr base v0 m v) (hB : Below wr.heap.size wr w') : ObjSt w w' base v0 m v := ⟨h.fr.trans (Fr.of_below hB), row_below h.row hB, h.own⟩
theorem ObjSt.trans {w wr w' : World} {base : Nat} {v0 v v' : Value} {m m' : List Int} (h : ObjSt w wr base v0 m v) (k : ObjSt wr w' base v m' v') : ObjSt w w' base v0 m' v' := by
  have hs := h.fr.size
  refine ⟨h.fr.trans' k.fr fun i hi ho => ?_, k.row, fun i hi => ?_⟩
  · rcases h.own i ho with h1 | h1
    · exact h1
    · omega
  · rcases k.own i hi with h1 | h1
    · exact h.own i h1
    · exact .inr (by omega)
theorem ObjSt.start {w w' : World} {base : Nat} {v : Value} {m : List Int} (h : w.ownsRow base 27 1 v m.length (encW m)) (hB : Below w.heap.size w w') : ObjSt w w' base v m v := ⟨Fr.of_below hB, row_below h hB, fun k hk => .inl hk⟩
theorem ObjSt.add {w wr wa w' : World} {base : Nat} {v0 v v' : Value} {m : List Int} {x : Int} (h : ObjSt w wr base v0 m v) (hB : Below wr.heap.size wr wa) (hg : wa.grownBy w' v.ownBlock) (hrow : w'.ownsRow base 27 1 v' (m.length + 1) (encW m ++ [.int .u64 x])) (hat : v'.ownBlock = v.ownBlock ∨ v'.ownBlock = some wa.heap.size) : ObjSt w w' base v0 (m ++ [x]) v' := by
  have h' := h.below hB
  have hs := h'.fr.size
  refine ⟨h'.fr.trans' (Fr.of_grown (O := fun k => v.ownBlock = some k) hg fun k hk => hk) fun i hi ho => ?_, ?_, fun k hk => ?_⟩
  · rcases h.own i ho with h1 | h1
    · exact h1
    · omega
  · rw [List.length_append, List.length_singleton, encW_snoc]
    exact hrow
  · rcases hat with e | e
    · exact h.own k (by rw [← e]; exact hk)
    · rw [hk] at e
      injection e with e
      exact .inr (by omega)
theorem ObjSt.pre {w w3 w' : World} {base : Nat} {v0 v : Value} {m : List Int} (hB : Below w.heap.size w w3) (h : ObjSt w3 w' base v0 m v) : ObjSt w w' base v0 m v :=
  ⟨(Fr.of_below hB).trans h.fr, h.row, fun k hk => (h.own k hk).imp id fun h => by have := hB.size; omega⟩
theorem ObjSt.away {w wr : World} {base : Nat} {v0 v : Value} {m : List Int} {O : Nat → Prop} (h : ObjSt w wr base v0 m v) (h1 : ∀ k, v0.ownBlock = some k → ¬ O k) (hO : ∀ k, O k → k < w.heap.size) : ∀ k, v.ownBlock = some k → ¬ O k := fun k hk ho => by
  rcases h.own k hk with h' | h'
  · exact h1 k h' ho
  · have := hO k ho; omega
theorem vfold_take {L : List ObjA} {P m : List Int} {j : Nat} (h : j < P.length) : (P.take (j + 1)).foldl (visW L) m = visW L ((P.take j).foldl (visW L) m) P[j] := by
  rw [List.take_succ_eq_append_getElem h, List.foldl_append]
  rfl
set_option maxRecDepth 10000 in
set_option maxHeartbeats 8000000 in
theorem objects_any {L : List ObjA} (hw : WfA L) (O : Nat → Prop) (ba room base : Nat) (hll : L.length ≤ 262144) : ∀ (n : Nat) (x : Int) (m : List Int) (v : Value) (w : World), rkW L x < n → FindOk L x → MetOk L m → ArAt w O ba room L → (∀ k, v.ownBlock = some k → ¬ O k) → w.ownsRow base 27 1 v m.length (encW m) → base ≤ w.heap.size →
    Calls Tryd.prog 34 #[.pointer (some ⟨ba, 0, none⟩), .int .u64 x, v] w fun e w' => ∃ v', e = .returned v' ∧ ObjSt w w' base v (visW L m x) v'
  | 0, x, m, v, w, h, _, _, _, _, _, _ => absurd h (Nat.not_lt_zero _)
  | n + 1, x, m, v, w, hrk, hx, hm, hA, hvO, hrow, hbase => by
    have ih := objects_any hw O ba room base hll n
    obtain ⟨Av, cv, rfl⟩ := row_slice hrow
    have hkd := wkind_any x w hx.2.1 hx.2.2
    have hhas := has_any w m Av cv x (WReads.of_row hrow) (by have := hm.len; omega)
    have hml := hm.len
    have HROW := Lib.hid hrow
    by_cases hp : ptrW x = true
    · have hkk : kdW x = 3 ∨ kdW x = 4 := by simpa [ptrW] using hp
      by_cases hin : x ∈ m
      · have HE := Lib.hid (vis_skip (L := L) hw (.inr hin))
        rw [decide_eq_true hin] at hhas
        clear ih hp hin hrow hA hvO
        rcases hkk with k | k
        all_goals
          rw [k] at hkd
          clear k
          go_enter Tryd.func34, Tryd.ntmps34
          go_wp2_with fail
          refine hkd.mono ?_
          rintro e w1 ⟨rfl, hw1⟩
          subst hw1
          go_wp2_with fail
          refine hhas.mono ?_
          rintro e w2 ⟨rfl, hb⟩
          go_wp2
          go_ret
          rw [HE.out]
          exact ⟨_, rfl, ObjSt.start HROW.out hb⟩
      · obtain ⟨hnot, hvis⟩ := vis_new hw hm hp hin
        rw [decide_eq_false hin] at hhas
        have hheld := fun W (hB : Below w.heap.size w W) => dheld_any W O ba room L x (hA.below hB) hx.2.1 hx.2.2
        have hpr := fun p (h : p ∈ partsW L x) => parts_rank hw h
        obtain ⟨P, hP⟩ : ∃ P, partsW L x = P := ⟨_, rfl⟩
        have hpl := parts_len hw x
        rw [hP] at hheld hpr hvis hnot hpl
        have HV := Lib.hid hvis
        have HPR := Lib.hid hpr
        have HA := Lib.hid hA
        have HVO := Lib.hid hvO
        have HM := Lib.hid hm
        have HIH := Lib.hid ih
        have HH := Lib.hid hheld
        obtain ⟨i0, hi, hz0, hz1, hz2⟩ := info_parts word_info
        clear hp hin hrow hA hvO hvis hpr hm hnot hP ih hheld
        rcases hkk with k | k
        all_goals
          rw [k] at hkd
          clear k
          go_enter Tryd.func34, Tryd.ntmps34
          go_wp2_with fail
          refine hkd.mono ?_
          rintro e w1 ⟨rfl, hw1⟩
          subst hw1
          go_wp2_with fail
          refine hhas.mono ?_
          rintro e w2 ⟨rfl, hb⟩
          have hh2 := HH.out w2 hb
          clear hhas hkd
          go_wp2_with fail
          refine hh2.mono ?_
          rintro e w3 ⟨AP, cP, rfl, hS⟩
          have HB3 := Lib.hid (below_then hb hS.base)
          have HPR3 := Lib.hid (WReads.of_row hS.row)
          have HPB := Lib.hid (show ∀ g o, AP = some ⟨g, o, none⟩ → w2.heap.size ≤ g ∧ g < w3.heap.size from fun g o e => by
            subst e
            rcases hS.row.2 with ⟨e, _⟩ | ⟨g', c', cur, e, _⟩
            · cases e
            · injection e with e1 _ _
              injection e1 with e1
              injection e1 with e1 e2 _
              subst e1
              subst e2
              exact ⟨row_base hS.row g rfl, row_lt hS.row g rfl⟩)
          have HST := Lib.hid (ObjSt.start (row_below HROW.out HB3.out) (Below.refl _ _))
          have HA3 := Lib.hid (HA.out.below HB3.out)
          have hs2 := hb.size
          have hs3 := HB3.out.size
          clear hh2 hS hb
          go_wp2_with fail
          go_loopw [2, 28] (fun v2 i wr => ∃ j : Nat, j ≤ P.length ∧ i = .int .i64 (j : Int) ∧ Hid (ObjSt w3 wr base (.slice Av m.length cv) ((P.take j).foldl (visW L) m) v2)) (fun v2 i wr => P.length - (intOf i).toNat)
          case atStart => exact ⟨0, Nat.zero_le _, rfl, HST⟩
          case round =>
            obtain ⟨j, hj, rfl, hS⟩ := hrel
            have hmk := fold_ok hw (P.take j) m HM.out (fun p hp => (HPR.out p (List.mem_of_mem_take hp)).1)
            have hAr := HA3.out.fr hS.out.fr (fun k hk hv => HVO.out k hv hk)
            have hvk := hS.out.away HVO.out (fun k hk => (HA3.out.lim k hk).2)
            have hbs : base ≤ wr.heap.size := by have := hS.out.fr.size; omega
            by_cases hlt : j < P.length
            · obtain ⟨g, o, rfl, q0⟩ := HPR3.out j hlt
              have hgb := HPB.out g o rfl
              have q1 := hS.out.fr.cell q0 (fun hk => by
                have := row_lt HROW.out _ hk
                simp at this
                omega)
              have hj1 : (j : Int) < (P.length : Int) := by omega
              have hj0 : (0 : Int) ≤ (j : Int) := Int.natCast_nonneg _
              have hbl : decide ((j : Int) < (P.length : Int)) = true := decide_eq_true hj1
              obtain ⟨r1, r2⟩ := HPR.out P[j] (List.getElem_mem hlt)
              have HTK := Lib.hid (vfold_take (L := L) (m := m) hlt)
              obtain ⟨p, hp⟩ : ∃ p, P[j] = p := ⟨_, rfl⟩
              rw [hp] at r1 r2 HTK q1
              have hrec := HIH.out p _ _ wr (by omega) r1 hmk hAr hvk hS.out.row hbs
              rw [← HTK.out] at hrec
              clear q0 hgb hp hmk r1 r2 hvk hAr HTK
              go_wp2_with fail
              refine hrec.mono ?_
              rintro e w5 ⟨v5, rfl, hS5⟩
              have HS5 := Lib.hid (hS.out.trans hS5)
              clear hrec hS5
              go_wp2
              go_roundw
              case rel => exact ⟨j + 1, hlt, by go_num, HS5⟩
              case measure => simp [intOf]; omega
            · obtain rfl : j = P.length := by omega
              have hst := hS.out
              rw [List.take_length] at hst hmk
              have hfl := hmk.len
              have HST2 := Lib.hid hst
              obtain ⟨F, hF⟩ : ∃ F, P.foldl (visW L) m = F := ⟨_, rfl⟩
              rw [hF] at HST2 hfl HV
              obtain ⟨A2, c2, hv2⟩ := row_slice HST2.out.row
              subst hv2
              have hbl : decide ((P.length : Int) < (P.length : Int)) = false := decide_eq_false (by omega)
              clear hS hst hlt hj hmk hAr hvk hF
              go_wp2_with (at_builtin
                           refine wpList_append_own_at _ rfl (.tmp 37) (.tmp 39) _ rfl base 27 i0 (.int .u64 0) 1 8 Tryd.underlying31 hi hz0 hz1 hz2 rfl (by decide) (.slice A2 F.length c2) F.length (encW F) rfl (HST2.out.row.alloc _) ⟨wr.heap.size, 0, none⟩ 1 1 [.int .u64 x] rfl rfl (cell_one_new _ _ _) (by simp [Value.oneCell']) (by unfold maxLen; omega) (by omega) (by rw [World.size_alloc]; omega) ?_
                           intro v5 w5 hown5 hgrow5 hnil5 hat5)
              have HS5 := Lib.hid (ObjSt.pre HB3.out (HST2.out.add (below_one wr _) hgrow5 hown5 hat5))
              rw [← HV.out] at HS5
              go_ret
              exact ⟨v5, rfl, HS5.out⟩
    · have hpf : ptrW x = false := by simpa using hp
      have HE := Lib.hid (vis_skip (L := L) hw (m := m) (.inl hpf))
      have k3 : (kdW x != 3) = true := by rw [bne_iff_ne]; intro e; simp [ptrW, e] at hp
      have k4 : (kdW x != 4) = true := by rw [bne_iff_ne]; intro e; simp [ptrW, e] at hp
      obtain ⟨k, hk⟩ : ∃ k, kdW x = k := ⟨_, rfl⟩
      rw [hk] at hkd k3 k4
      clear ih hp hpf hrow hA hvO hk hhas
      go_enter Tryd.func34, Tryd.ntmps34
      go_wp2_with fail
      refine hkd.mono ?_
      rintro e w1 ⟨rfl, hw1⟩
      subst hw1
      go_wp2
      go_ret
      rw [HE.out]
      exact ⟨_, rfl, ObjSt.start HROW.out (Below.refl _ _)⟩
end Go.Proofs.YthgnihckeckaiaaDoor.Tm
