/- Sweep's law: chosen. -/
import Derived.Test.YthgnihckeckaiaaDoorSwA
import Derived.Maps.AppendAt
namespace Go.Proofs.YthgnihckeckaiaaDoor.Tm
open Go.RowKit Go.Shelf
set_option linter.unusedVariables false
set_option linter.unusedSimpArgs false

structure RootD where
  raw : Bool
  n : Int
  x : Int
structure RootOk (r : RootD) : Prop where
  n : -9223372036854775808 ≤ r.n ∧ r.n < 9223372036854775808
  x : 0 ≤ r.x ∧ r.x < 18446744073709551616
def RtReads (w : World) (A : Option Addr) (l : List RootD) : Prop := ∀ j (h : j < l.length), ∃ b o, A = some ⟨b, o, none⟩ ∧ w.cell? ⟨b, o + j * 3, none⟩ = some (.bool l[j].raw) ∧ w.cell? ⟨b, o + j * 3 + 1, none⟩ = some (.int .i64 l[j].n) ∧ w.cell? ⟨b, o + j * 3 + 2, none⟩ = some (.int .u64 l[j].x)
theorem RtReads.below {w W : World} {A : Option Addr} {l : List RootD} (h : RtReads w A l) (hB : Below w.heap.size w W) : RtReads W A l := fun j hj => by
  obtain ⟨b, o, e, h0, h1, h2⟩ := h j hj
  exact ⟨b, o, e, cell_below hB h0, cell_below hB h1, cell_below hB h2⟩
structure ChRep (w wx : World) (n : Nat) (v : Value) (r : List Int) : Prop where
  base : Below w.heap.size w wx
  row : wx.ownsRow w.heap.size 27 1 v r.length (encW r)
  len : r.length = n
  rng : ∀ x ∈ r, 0 ≤ x ∧ x < 18446744073709551616
set_option maxRecDepth 10000 in
set_option maxHeartbeats 8000000 in
theorem chosen23_any (w : World) (O : Nat → Prop) (ba room : Nat) (L : List ObjA) (rs : List RootD) (A : Option Addr) (cap : Nat) (hA : ArAt w O ba room L) (hr : RtReads w A rs) (hk : ∀ j (h : j < rs.length), RootOk rs[j]) (hl : rs.length ≤ 10000000000) :
    Calls Tryd.prog 51 #[.pointer (some ⟨ba, 0, none⟩), .slice A rs.length cap] w fun e w' => ∃ A' c' r, e = .returned (.slice A' r.length c') ∧ ChRep w w' rs.length (.slice A' r.length c') r := by
  have hall := sall_any w O ba room L hA
  have hlims := hA.lims
  have hwll := hA.wf.len
  have hwl := wordsA_len 0 L
  have hwok := fun k (h : k < (wordsA 0 L).length) => words_find hA.wf (by omega) h
  obtain ⟨WS, hWS⟩ : ∃ l, wordsA 0 L = l := ⟨_, rfl⟩
  rw [hWS] at hall hwl hwok
  have HWOK := Lib.hid hwok
  have hwle : WS.length ≤ 262144 := by omega
  have HR := Lib.hid hr
  have HK := Lib.hid hk
  clear hA hr hk hWS hwok hwl
  go_enter Tryd.func51, Tryd.ntmps51
  go_wp2_with fail
  refine hall.mono ?_
  rintro e w2 ⟨AL, cL, rfl, hrowL, hb2L⟩
  have HRL := Lib.hid (WReads.of_row hrowL)
  have HB2 := Lib.hid hb2L
  clear hall hrowL hb2L
  go_wp2_with fail
  go_loopw [6, 7] (fun v i wr => ∃ (j : Nat) (r : List Int), j ≤ rs.length ∧ i = .int .i64 (j : Int) ∧ Hid (ChRep w2 wr j v r)) (fun v i wr => rs.length - (intOf i).toNat)
  case atStart => exact ⟨0, [], Nat.zero_le _, rfl, Lib.hid ⟨Below.refl _ _, row_nil _ _ _ _, rfl, fun x hx => (by cases hx)⟩⟩
  case round =>
    obtain ⟨j, r, hj, rfl, hC⟩ := hrel
    obtain ⟨Ar, cr, hvr⟩ := row_slice hC.out.row
    rw [hC.out.len] at hvr
    subst hvr
    have hszr := hC.out.base.size
    have hj0 : (0 : Int) ≤ (j : Int) := Int.natCast_nonneg _
    by_cases hlt : j < rs.length
    · obtain ⟨b, o, hAr, q0, q1, q2⟩ := ((HR.out.below HB2.out).below hC.out.base) j hlt
      subst hAr
      have hok := HK.out j hlt
      have hj1 : (j : Int) < (rs.length : Int) := by omega
      have hbl : decide ((j : Int) < (rs.length : Int)) = true := decide_eq_true hj1
      obtain ⟨rt, hrt⟩ : ∃ r, rs[j] = r := ⟨_, rfl⟩
      rw [hrt] at q0 q1 q2 hok
      obtain ⟨raw, rn, rx⟩ := rt
      obtain ⟨hn1, hx1⟩ := hok
      simp only at q0 q1 q2 hn1 hx1
      have HROW := Lib.hid (show wr.ownsRow w2.heap.size 27 1 (.slice Ar j cr) j (encW r) by
        have := hC.out.row
        rw [hC.out.len] at this
        exact this)
      obtain ⟨i0, hi, hz0, hz1, hz2⟩ := info_parts word_info
      clear hrt
      have step : ∀ (y : Int) (v5 : Value) (w5 : World), (0 ≤ y ∧ y < 18446744073709551616) → w5.ownsRow w2.heap.size 27 1 v5 (j + 1) (encW r ++ [.int .u64 y]) → (wr.alloc (.cells #[.int .u64 y] 27)).grownBy w5 (Value.slice Ar j cr).ownBlock → Hid (ChRep w2 w5 (j + 1) v5 (r ++ [y])) := fun y v5 w5 hy hown hgrow => Lib.hid ⟨below_grown (below_alloc' hC.out.base _) hgrow (row_base HROW.out), by rw [List.length_append, List.length_singleton, hC.out.len, encW_snoc]; exact hown, by rw [List.length_append, List.length_singleton, hC.out.len], fun x hx => by
        rcases List.mem_append.1 hx with hx | hx
        · exact hC.out.rng x hx
        · rw [List.mem_singleton.1 hx]; exact hy⟩
      have HSTEP := Lib.hid step
      clear step
      cases raw with
      | true =>
        go_wp2_with (at_builtin
                     refine wpList_append_own_at _ rfl (.tmp 26) (.tmp 32) _ rfl w2.heap.size 27 i0 (.int .u64 0) 1 8 Tryd.underlying31 hi hz0 hz1 hz2 rfl (by decide) (.slice Ar j cr) j (encW r) rfl (HROW.out.alloc _) ⟨wr.heap.size, 0, none⟩ 1 1 [.int .u64 rx] rfl rfl (cell_one_new _ _ _) (by simp [Value.oneCell']) (by unfold maxLen; omega) (by omega) (by rw [World.size_alloc]; omega) ?_
                     intro v5 w5 hown5 hgrow5 hnil5 hat5)
        have HC5 := HSTEP.out rx v5 w5 hx1 hown5 hgrow5
        clear hown5 hgrow5 hnil5 hat5
        go_roundw
        case rel => exact ⟨j + 1, r ++ [rx], hlt, by go_num, HC5⟩
        case measure => simp [intOf]; omega
      | false =>
        by_cases hW : 0 < WS.length
        · have hW0 : ((WS.length : Int) == 0) = false := beq_eq_false_iff_ne.2 (by omega)
          have hcn := count_any rn WS.length wr (by omega) (by omega) hn1
          go_wp2_with fail
          refine hcn.mono ?_
          rintro e w3 ⟨k, hkk, rfl, hw3⟩
          subst hw3
          obtain ⟨g3, o3, hAL, hcL⟩ := (HRL.out.below hC.out.base) k hkk
          subst hAL
          have HFO := Lib.hid (HWOK.out k hkk)
          obtain ⟨y, hy⟩ : ∃ y, WS[k] = y := ⟨_, rfl⟩
          rw [hy] at hcL HFO
          have hk0 : (0 : Int) ≤ (k : Int) := Int.natCast_nonneg _
          have hk1 : (k : Int) < (WS.length : Int) := by omega
          clear hcn hy
          go_wp2_with (at_builtin
                       refine wpList_append_own_at _ rfl (.tmp 34) (.tmp 46) _ rfl w2.heap.size 27 i0 (.int .u64 0) 1 8 Tryd.underlying31 hi hz0 hz1 hz2 rfl (by decide) (.slice Ar j cr) j (encW r) rfl (HROW.out.alloc _) ⟨wr.heap.size, 0, none⟩ 1 1 [.int .u64 y] rfl rfl (cell_one_new _ _ _) (by simp [Value.oneCell']) (by unfold maxLen; omega) (by omega) (by rw [World.size_alloc]; omega) ?_
                       intro v5 w5 hown5 hgrow5 hnil5 hat5)
          have HC5 := HSTEP.out y v5 w5 HFO.out.2 hown5 hgrow5
          clear hown5 hgrow5 hnil5 hat5
          go_roundw
          case rel => exact ⟨j + 1, r ++ [y], hlt, by go_num, HC5⟩
          case measure => simp [intOf]; omega
        · have hW0 : ((WS.length : Int) == 0) = true := by rw [beq_iff_eq]; omega
          clear hW
          go_wp2_with (at_builtin
                       refine wpList_append_own_at _ rfl (.tmp 26) (.tmp 32) _ rfl w2.heap.size 27 i0 (.int .u64 0) 1 8 Tryd.underlying31 hi hz0 hz1 hz2 rfl (by decide) (.slice Ar j cr) j (encW r) rfl (HROW.out.alloc _) ⟨wr.heap.size, 0, none⟩ 1 1 [.int .u64 rx] rfl rfl (cell_one_new _ _ _) (by simp [Value.oneCell']) (by unfold maxLen; omega) (by omega) (by rw [World.size_alloc]; omega) ?_
                       intro v5 w5 hown5 hgrow5 hnil5 hat5)
          have HC5 := HSTEP.out rx v5 w5 hx1 hown5 hgrow5
          clear hown5 hgrow5 hnil5 hat5
          go_roundw
          case rel => exact ⟨j + 1, r ++ [rx], hlt, by go_num, HC5⟩
          case measure => simp [intOf]; omega
    · obtain rfl : j = rs.length := by omega
      have hbl : decide ((rs.length : Int) < (rs.length : Int)) = false := decide_eq_false (by omega)
      clear hlt hj
      go_wp2
      go_ret
      have hln := hC.out.len
      refine ⟨Ar, cr, r, by rw [hln]; rfl, ?_⟩
      rw [hln]
      exact ⟨below_then HB2.out hC.out.base, row_mono hC.out.row HB2.out.size, hC.out.len, hC.out.rng⟩
end Go.Proofs.YthgnihckeckaiaaDoor.Tm
