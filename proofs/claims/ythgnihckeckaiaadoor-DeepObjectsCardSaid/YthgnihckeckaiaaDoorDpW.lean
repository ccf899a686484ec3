/- deep's small functions: pointer, parts, isWord, term, cost, Cells. -/
import Derived.Test.YthgnihckeckaiaaDoorDpI
import Derived.Test.YthgnihckeckaiaaDoorDpP
namespace Go.Proofs.YthgnihckeckaiaaDoor.Tm
open Go.RowKit
set_option linter.unusedVariables false
set_option linter.unusedSimpArgs false

theorem pointer_any (x : Int) (w : World) (h0 : 0 ≤ x) (h1 : x < 18446744073709551616) : Calls Tryd.prog 126 #[.int .u64 x] w fun e w' => e = .returned (.bool (ptrW x)) ∧ w' = w := by
  have hk := wkind_any x w h0 h1
  by_cases h3 : kdW x = 3
  · have H := Lib.hid (show ptrW x = true by unfold ptrW; rw [h3]; rfl)
    rw [h3] at hk
    clear h3
    go_enter Tryd.func126, Tryd.ntmps126
    go_wp2_with fail
    refine hk.mono ?_
    rintro e w' ⟨rfl, rfl⟩
    go_wp2
    go_ret
    exact ⟨by rw [H.out]; rfl, rfl⟩
  · by_cases h4 : kdW x = 4
    · have H := Lib.hid (show ptrW x = true by unfold ptrW; rw [h4]; rfl)
      rw [h4] at hk
      clear h3 h4
      go_enter Tryd.func126, Tryd.ntmps126
      go_wp2_with fail
      refine hk.mono ?_
      rintro e w' ⟨rfl, rfl⟩
      go_wp2
      go_ret
      exact ⟨by rw [H.out]; rfl, rfl⟩
    · have e3 : (kdW x == 3) = false := beq_eq_false_iff_ne.2 h3
      have e4 : (kdW x == 4) = false := beq_eq_false_iff_ne.2 h4
      have H := Lib.hid (show ptrW x = false by unfold ptrW; rw [e3, e4]; rfl)
      obtain ⟨k, hkk⟩ : ∃ k, kdW x = k := ⟨_, rfl⟩
      rw [hkk] at hk e3 e4
      clear h3 h4 hkk
      go_enter Tryd.func126, Tryd.ntmps126
      go_wp2_with fail
      refine hk.mono ?_
      rintro e w' ⟨rfl, rfl⟩
      go_wp2
      go_ret
      exact ⟨by rw [H.out]; rfl, rfl⟩
set_option maxHeartbeats 1000000 in
theorem parts_any (w : World) (O : Nat → Prop) (ba room : Nat) (L : List ObjA) (x : Int) (h0 : 0 ≤ x) (h1 : x < 18446744073709551616) (h : ArAt w O ba room L) :
    Calls Tryd.prog 87 #[.pointer (some ⟨ba, 0, none⟩), .int .u64 x] w fun e w' => e = .returned (.int .i64 ((partsW L x).length : Int)) ∧ Below w.heap.size w w' := by
  have hc := acell_any w O ba room L x h0 h1 h
  have hw := h.wf
  cases hs : seenA L x with
  | none =>
    have H := Lib.hid (show (partsW L x).length = 0 by unfold partsW; rw [hs]; rfl)
    rw [hs] at hc
    simp only [cellS, errS, zeroC, CellD.agg] at hc
    clear hs h
    go_enter Tryd.func87, Tryd.ntmps87
    go_wp2_with fail
    refine hc.mono ?_
    rintro e w1 ⟨rfl, hB⟩
    go_wp2
    go_ret
    exact ⟨by rw [H.out]; rfl, below_alloc' hB _⟩
  | some r =>
    obtain ⟨c, ps⟩ := r
    obtain ⟨s5, s7, s0⟩ := seen_shape hw hs
    have H := Lib.hid (show (partsW L x).length = ps.length by unfold partsW; rw [hs])
    rw [hs] at hc
    simp only [cellS, errS, CellD.agg] at hc
    clear hs h hw
    by_cases h5 : c.kind = 5
    · have H5 := Lib.hid (s5 h5)
      have e5 : (c.kind == 5) = true := by rw [h5]; rfl
      clear s5 s7 s0 h5
      go_enter Tryd.func87, Tryd.ntmps87
      go_wp2_with fail
      refine hc.mono ?_
      rintro e w1 ⟨rfl, hB⟩
      go_wp2
      go_ret
      exact ⟨by rw [H.out, ← H5.out]; first | rfl | simp, below_alloc' hB _⟩
    · have e5 : (c.kind == 5) = false := beq_eq_false_iff_ne.2 h5
      by_cases h7 : c.kind = 7
      · have H7 := Lib.hid (s7 h7)
        have e7 : (c.kind == 7) = true := by rw [h7]; rfl
        clear s5 s7 s0 h5 h7
        go_enter Tryd.func87, Tryd.ntmps87
        go_wp2_with fail
        refine hc.mono ?_
        rintro e w1 ⟨rfl, hB⟩
        go_wp2
        go_ret
        exact ⟨by rw [H.out, H7.out]; rfl, below_alloc' hB _⟩
      · have H0 := Lib.hid (s0 h5 h7)
        have e7 : (c.kind == 7) = false := beq_eq_false_iff_ne.2 h7
        clear s5 s7 s0 h5 h7
        go_enter Tryd.func87, Tryd.ntmps87
        go_wp2_with fail
        refine hc.mono ?_
        rintro e w1 ⟨rfl, hB⟩
        go_wp2
        go_ret
        exact ⟨by rw [H.out, H0.out]; rfl, below_alloc' hB _⟩
theorem isword_any (w : World) (O : Nat → Prop) (ba room : Nat) (L : List ObjA) (x : Int) (h0 : 0 ≤ x) (h1 : x < 18446744073709551616) (h : ArAt w O ba room L) :
    Calls Tryd.prog 83 #[.pointer (some ⟨ba, 0, none⟩), .int .u64 x] w fun e w' => e = .returned (.bool (findA L x).isSome) ∧ Below w.heap.size w w' := by
  have hc := acell_any w O ba room L x h0 h1 h
  have hi := seen_is (L := L) x
  obtain ⟨f, hf⟩ : ∃ f, (findA L x).isSome = f := ⟨_, rfl⟩
  rw [hf] at hi ⊢
  obtain ⟨c, hcc⟩ : ∃ c, cellS (seenA L x) = c := ⟨_, rfl⟩
  have he : (errS (seenA L x) == 0) = f := by
    cases hs : seenA L x with
    | none => rw [hs] at hi; subst hi; rfl
    | some r => rw [hs] at hi; subst hi; rfl
  obtain ⟨er, her⟩ : ∃ er, errS (seenA L x) = er := ⟨_, rfl⟩
  rw [hcc, her] at hc
  rw [her] at he
  simp only [CellD.agg] at hc
  clear h hi hf hcc her
  go_enter Tryd.func83, Tryd.ntmps83
  go_wp2_with fail
  refine hc.mono ?_
  rintro e w1 ⟨rfl, hB⟩
  go_wp2
  go_ret
  exact ⟨by first | rfl | simp, below_alloc' hB _⟩
end Go.Proofs.YthgnihckeckaiaaDoor.Tm
