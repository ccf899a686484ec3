/- The law GuardNot. -/
import Derived.Test.YtefpolgflimlgaaDoorNot
import Derived.Test.YtefpolgflimlgaaDoorAsksR
namespace Go.Proofs.YtefpolgflimlgaaDoor.Tm
open Go.RowKit
set_option linter.unusedVariables false
set_option linter.unusedSimpArgs false

abbrev zero7 : Array Value := #[.int .i64 0, .int .i64 0, .int .i64 0, .string ⟨#[]⟩, .int .i64 0, .int .i64 0, .string ⟨#[]⟩]
theorem not_err {t : TestD} {x : List (List CellD)} (h : testB t = true) (o : t.op ≤ 6) : (holdsE [notT t] x).2 = (holdsE [t] x).2 := by
  rw [holds_one h, holds_one (notT_ok h o).1]
  split
  · rfl
  · split <;> rfl
theorem not_both {t : TestD} {x : List (List CellD)} (h : testB t = true) (o : t.op ≤ 6) (e : (holdsE [t] x).2 = 0) {n : Int} (m : n ∈ asksD [t]) (r : regD x n = []) : (holdsE [t] x).1 = false ∧ (holdsE [notT t] x).1 = false := by
  rw [holds_one h] at e ⊢
  rw [holds_one (notT_ok h o).1]
  obtain ⟨a, b⟩ := not_unset h o m r
  split
  · exact ⟨rfl, rfl⟩
  · split
    · exact ⟨rfl, rfl⟩
    · exact ⟨a, b⟩
theorem not_turn {t : TestD} {x : List (List CellD)} (h : testB t = true) (o : t.op ≤ 6) (e : (holdsE [t] x).2 = 0) (s : ∀ n ∈ asksD [t], regD x n ≠ []) : (holdsE [notT t] x).1 = !(holdsE [t] x).1 := by
  rw [holds_one h] at e ⊢
  rw [holds_one (notT_ok h o).1]
  split at e
  · cases e
  · rename_i h16
    rw [if_neg h16, if_neg h16]
    split at e
    · rename_i hr; exact absurd e hr
    · rename_i hr
      rw [if_neg hr, if_neg hr]
      exact not_set h o s
theorem gHolds_at (n : Nat) (g : List TestD) (hn : g.length = n) (x : List (List CellD)) (A B : Option Addr) (c d : Nat) (w : World) (hr : TReads w A g) (hf : FineT g) (hx : Reads2 w B x) (hfx : Fine2 x) (hl : x.length ≤ 1000000000000000) (hT : Tabs w) :
    Calls Tryd.prog 40 #[.slice A n c, .slice B x.length d] w fun e w' => e = .returned (.tuple #[.bool (holdsE g x).1, .int .i64 (holdsE g x).2]) ∧ Below w.heap.size w w' := by
  subst hn
  exact gHolds_any g x A B c d w hr hf hx hfx hl hT
theorem rasks_at (n : Nat) (g : List TestD) (hn : g.length = n) (A : Option Addr) (c : Nat) (w : World) (hr : TReads w A g) (hl : g.length ≤ 1000000000000000) :
    Calls Tryd.prog 68 #[.slice A n c] w fun e w' => ∃ A' c', e = .returned (.slice A' (asksD g).length c') ∧ IntsAt w' w.heap.size (.slice A' (asksD g).length c') (asksD g) ∧ Below w.heap.size w w' := by
  subst hn
  exact rasks_any g A c w hr hl
theorem asks_at {g : List TestD} {k : Nat} (h : k < (asksD g).length) : ∃ m : Nat, (asksD g)[k] = (m : Int) ∧ m < 16 := by
  have := asksD_mem.1 (List.getElem_mem h)
  exact ⟨((asksD g)[k]).toNat, by omega, by omega⟩
theorem regD_ge {x : List (List CellD)} {m : Nat} (h : x.length ≤ m) : regD x (m : Int) = [] := regD_out (by omega)
set_option maxRecDepth 100000 in
set_option maxHeartbeats 4000000 in
theorem guardNot_any (t : TestD) (x : List (List CellD)) (A : Option Addr) (c : Nat) (w : World) (hs : t.a.text.size ≤ 9223372036854775807) (hs2 : t.b.text.size ≤ 9223372036854775807) (hx : Reads2 w A x) (hfx : Fine2 x) (hl : x.length ≤ 1000000000000000) (hT : Tabs w) :
    Calls Tryd.prog 10 #[aggT t, .slice A x.length c] w fun e w' => e = .returned (.bool true) ∧ Below w.heap.size w w' := by
  have HX := Lib.hid hx
  have HFX := Lib.hid hfx
  have HT := Lib.hid (Utf8Tabs_below hT (below_one w (.cells (valsA t) 51)))
  have hB0 := below_one w (.cells (valsA t) 51)
  have T0 := Lib.hid (TBlk.new w t 51)
  have HTT := Lib.hid hT
  clear hx hfx hT
  by_cases hno : testB t = true ∧ t.op ≤ 6
  · obtain ⟨hty, ho⟩ := hno
    have HN := Lib.hid (notE_yes hty ho)
    have HE := Lib.hid (not_err (x := x) hty ho)
    have HBo := Lib.hid (fun e n m r => not_both (x := x) hty ho e (n := n) m r)
    have HTu := Lib.hid (fun e s => not_turn (x := x) hty ho e s)
    clear hty
    go_enter Tryd.func10, Tryd.ntmps10
    go_wp2_with fail
    refine (gnot_any t _ hs hs2 HT.out).mono ?_
    rintro e w1 ⟨rfl, hb1⟩
    rw [HN.out]
    have hB1 := below_then hB0 hb1
    have T1 := T0.out.below hb1
    have T2 := T1.below (below_one w1 (.cells (valsA (notT t)) 51))
    have hB2 := below_alloc' hB1 (.cells (valsA (notT t)) 51)
    have R1 := TReads.new (w1.alloc (.cells (valsA (notT t)) 51)) (t := 51) (cs := valsA t) (g := [t]) rfl
    rw [World.size_alloc] at R1
    have hB3 := below_alloc' hB2 (.cells (valsA t) 51)
    have HR1 := Lib.hid R1
    have HB3 := Lib.hid hB3
    obtain ⟨⟨a0, a1, a2, a3, a4, a5, a6⟩, gr⟩ := T2
    simp only [Nat.zero_add] at a1 a2 a3 a4 a5 a6
    clear R1 hB3 hB2 T1 gr
    have N1 := ((TBlk.new w1 (notT t) 51).below (below_one _ (.cells (valsA t) 51)))
    have HN1 := Lib.hid N1
    have HT3 := Lib.hid (Utf8Tabs_below HTT.out HB3.out)
    clear N1
    go_wp2_with fail
    refine (gHolds_at 1 [t] rfl x _ A 1 c _ HR1.out (kfine t ⟨hs, hs2⟩) (HX.out.below HB3.out) HFX.out hl HT3.out).mono ?_
    rintro e w4 ⟨rfl, hb4⟩
    have hB4 := below_then HB3.out hb4
    have N4 := HN1.out.below hb4
    have R5 := TReads.new w4 (t := 51) (cs := valsA (notT t)) (g := [notT t]) rfl
    have hB5 := below_alloc' hB4 (.cells (valsA (notT t)) 51)
    have HR5 := Lib.hid R5
    have HB5 := Lib.hid hB5
    have HT5 := Lib.hid (Utf8Tabs_below HTT.out HB5.out)
    have T4 := ((T0.out.below hb1).below (below_then (below_one w1 (.cells (valsA (notT t)) 51)) (below_one _ (.cells (valsA t) 51)))).below hb4
    have HT4 := Lib.hid (T4.below (below_one w4 (.cells (valsA (notT t)) 51)))
    obtain ⟨⟨n0, n1, n2, n3, n4, n5, n6⟩, nr⟩ := N4
    simp only [Nat.zero_add] at n1 n2 n3 n4 n5 n6
    clear R5 hB5 hb4 nr a0 a1 a2 a3 a4 a5 a6 T4 hb1
    go_wp2_with fail
    refine (gHolds_at 1 [notT t] rfl x _ A 1 c _ HR5.out (kfine (notT t) ⟨hs, hs2⟩) (HX.out.below HB5.out) HFX.out hl HT5.out).mono ?_
    rintro e w6 ⟨rfl, hb6⟩
    have hB6 := below_then HB5.out hb6
    have HTK := Lib.hid (Utf8Tabs_below HTT.out hB6)
    rw [HE.out]
    have T6 := HT4.out.below hb6
    clear hb6 n0 n1 n2 n3 n4 n5 n6 hB4
    by_cases he : (holdsE [t] x).2 = 0
    · have hbo := Lib.hid (fun n m r => HBo.out he n m r)
      have htu := Lib.hid (fun s => HTu.out he s)
      have he' : ((holdsE [t] x).2 != 0) = false := by rw [bne_eq_false_iff_eq]; exact he
      have s1 : ∀ a : Int, (a != a) = false := fun a => by simp
      have R7 := TReads.new w6 (t := 51) (cs := valsA t) (g := [t]) rfl
      have hB7 := below_alloc' hB6 (.cells (valsA t) 51)
      have HR7 := Lib.hid R7
      have HB7 := Lib.hid hB7
      obtain ⟨⟨a0, a1, a2, a3, a4, a5, a6⟩, gr⟩ := T6
      simp only [Nat.zero_add] at a1 a2 a3 a4 a5 a6
      clear R7 hB7 gr HBo HTu HE he
      generalize (holdsE [t] x).1 = pa at *
      generalize (holdsE [notT t] x).1 = pb at *
      generalize (holdsE [t] x).2 = pe at *
      have s2 := s1 pe
      clear s1
      go_wp2_with fail
      refine (rasks_at 1 [t] rfl _ 1 _ HR7.out (by simp)).mono ?_
      rintro e w8 ⟨A8, c8, rfl, hI8, hb8⟩
      have hB8 := below_then HB7.out hb8
      have HI := Lib.hid hI8
      have hlen := asks_len [t]
      clear hI8 hb8 a0 a1 a2 a3 a4 a5 a6 he' s2 hB6
      go_wp2_with fail
      go_loopw [12] (fun i wr => ∃ k : Nat, k ≤ (asksD [t]).length ∧ i = .int .i64 k ∧ Below w8.heap.size w8 wr ∧ Hid (∀ j (h : j < (asksD [t]).length), j < k → regD x (asksD [t])[j] ≠ [])) (fun i wr => (asksD [t]).length - (intOf i).toNat)
      case atStart => exact ⟨0, Nat.zero_le _, rfl, Below.refl _ _, fun j _ h => absurd h (Nat.not_lt_zero j)⟩
      case round =>
        obtain ⟨k, hk, rfl, hBr, hH⟩ := hrel
        have hBw := below_then hB8 hBr
        have HTr := Lib.hid (Utf8Tabs_below HTT.out hBw)
        by_cases hlt : k < (asksD [t]).length
        · obtain ⟨g, hA8, hcg⟩ := (HI.out.below hBr).cells hlt
          subst hA8
          obtain ⟨m, hm, hm16⟩ := asks_at hlt
          have Hun := Lib.hid (fun r => hbo.out _ (List.getElem_mem hlt) (by rw [hm]; exact r))
          have Hst := Lib.hid (show regD x (m : Int) ≠ [] → ∀ j (h : j < (asksD [t]).length), j < k + 1 → regD x (asksD [t])[j] ≠ [] from fun e j h h1 => by
            rcases Nat.lt_succ_iff_lt_or_eq.1 h1 with h2 | rfl
            · exact hH.out j h h2
            · rw [hm]; exact e)
          rw [hm] at hcg
          have hi1 : (k : Int) < ((asksD [t]).length : Int) := by omega
          have hi0 : (0 : Int) ≤ (k : Int) := Int.natCast_nonneg _
          clear hm hH
          by_cases hmx : m < x.length
          · obtain ⟨b, o, hA, Am, cm, q0, q1, q2⟩ := HX.out m hmx
            subst hA
            have q0' := cell_below hBw q0
            have hmi : (m : Int) < (x.length : Int) := by omega
            have hm0 : (0 : Int) ≤ (m : Int) := Int.natCast_nonneg _
            have hrm := Lib.hid (regD_in hmx)
            by_cases hz : x[m].length = 0
            · have W := Lib.hid (Hun.out (by rw [hrm.out]; exact List.eq_nil_of_length_eq_zero hz))
              obtain ⟨rfl, rfl⟩ := W.out
              rw [hz] at q0'
              clear Hun Hst hbo htu q0 q1 q2 hz W
              go_wp2_with fail
              refine (known9_any _ HTr.out).mono ?_
              rintro e w9 ⟨rfl, hb9⟩
              go_wp2
              go_ret
              exact ⟨rfl, below_then hBw hb9⟩
            · have hzb : ((x[m].length : Int) == 0) = false := beq_eq_false_iff_ne.2 (by omega)
              have F := Lib.hid (Hst.out (by rw [hrm.out]; intro e; rw [e] at hz; exact hz rfl))
              clear Hun Hst q0 q1 q2 hz
              generalize x[m].length = n at *
              go_wp2
              go_roundw
              case rel => exact ⟨k + 1, by omega, by go_num, hBr, F⟩
              case measure => simp [intOf]; omega
          · have W := Lib.hid (Hun.out (regD_ge (by omega)))
            have hge : (x.length : Int) ≤ (m : Int) := by omega
            obtain ⟨rfl, rfl⟩ := W.out
            clear Hun Hst hbo htu W
            go_wp2_with fail
            refine (known9_any _ HTr.out).mono ?_
            rintro e w9 ⟨rfl, hb9⟩
            go_wp2
            go_ret
            exact ⟨rfl, below_then hBw hb9⟩
        · have W := Lib.hid (htu.out (fun n hn => by
            obtain ⟨j, hj, rfl⟩ := List.mem_iff_getElem.1 hn
            exact hH.out j hj (by omega)))
          have W2 := W.out
          subst W2
          clear hbo htu hH W
          cases pa
          all_goals
            go_wp2_with fail
            refine (known9_any _ HTr.out).mono ?_
            rintro e w9 ⟨rfl, hb9⟩
            go_wp2
            go_ret
            exact ⟨rfl, below_then hBw hb9⟩
    · have he' : ((holdsE [t] x).2 != 0) = true := by rw [bne_iff_ne]; exact he
      have s1 : ∀ a : Int, (a != a) = false := fun a => by simp
      clear HBo HTu HE he
      generalize (holdsE [t] x).1 = pa at *
      generalize (holdsE [notT t] x).1 = pb at *
      generalize (holdsE [t] x).2 = pe at *
      have s2 := s1 pe
      clear s1 T6
      go_wp2_with fail
      refine (known9_any _ HTK.out).mono ?_
      rintro e w9 ⟨rfl, hb9⟩
      go_wp2
      go_ret
      exact ⟨rfl, below_then hB6 hb9⟩
  · have HN := Lib.hid (show notE t = (zeroT, false) by rw [notE, if_neg hno])
    clear hno
    go_enter Tryd.func10, Tryd.ntmps10
    go_wp2_with fail
    refine (gnot_any t _ hs hs2 HT.out).mono ?_
    rintro e w1 ⟨rfl, hb1⟩
    rw [HN.out, show aggT (zeroT, false).1 = Value.agg zero7 from rfl]
    have hB1 := below_then hB0 hb1
    have hB2 := below_alloc' hB1 (.cells zero7 51)
    have HB2 := Lib.hid hB2
    clear hB2
    go_wp2_with fail
    refine (known9_any _ (Utf8Tabs_below HTT.out HB2.out)).mono ?_
    rintro e w9 ⟨rfl, hb9⟩
    go_wp2
    go_ret
    exact ⟨rfl, below_then HB2.out hb9⟩
theorem guardNot_row (t : TestD) (A : Option Addr) (c : Nat) (x : List (List CellD)) (w : World) (hT : Tabs w) (hs : t.a.text.size ≤ 9223372036854775807 ∧ t.b.text.size ≤ 9223372036854775807) (hc : x.length ≤ c) (hx : Reads2 w A x) (hfx : Fine2 x) (hy : x.length * 24 ≤ 140737488351232) :
    Calls Tryd.prog 10 #[aggT t, .slice A x.length c] w fun e w' => e = .returned (.bool true) ∧ Below w.heap.size w w' :=
  guardNot_any t x A c w hs.1 hs.2 hx hfx (by omega) hT
end Go.Proofs.YtefpolgflimlgaaDoor.Tm
