/- arena.Get. -/
import Derived.Test.YthgnihckeckaiaaDoorArT
import Derived.WalkMore
namespace Go.Proofs.YthgnihckeckaiaaDoor.Tm
open Go.RowKit
set_option linter.unusedVariables false
set_option linter.unusedSimpArgs false

theorem Ext.take (l : List ObjA) (k : Nat) : Ext (l.take k) l := ⟨l.drop k, by simp⟩
/-- What a word that names an object tells. -/
theorem seen_obj {l : List ObjA} {x : Int} {c : CellD} {ps : List Int} (h : seenA l x = some (c, ps)) : (findA l x = some (-1) ∧ c = cellW x ∧ ps = []) ∨ ∃ k : Nat, ∃ hk : k < l.length, findA l x = some (k : Int) ∧ c = (l[k]).cell ∧ ps = (l[k]).parts := by
  unfold seenA at h
  cases hf : findA l x with
  | none => rw [hf] at h; cases h
  | some k =>
    rw [hf] at h
    have hk := findA_lt hf
    simp only at h
    split at h
    · obtain rfl : k = -1 := by omega
      simp at h
      exact .inl ⟨rfl, h.1.symm, h.2⟩
    · have hlt : k.toNat < l.length := by omega
      rw [List.getElem?_eq_getElem hlt] at h
      simp at h
      exact .inr ⟨k.toNat, hlt, by rw [Int.toNat_of_nonneg (by omega)], h.1.symm, h.2.symm⟩
theorem seen_parts {l : List ObjA} (hw : WfA l) {x : Int} {c : CellD} {ps : List Int} (h : seenA l x = some (c, ps)) : ∀ p ∈ ps, FindOk l p := by
  intro p hp
  rcases seen_obj h with ⟨_, _, rfl⟩ | ⟨k, hk, _, _, rfl⟩
  · cases hp
  · exact FindOk.ext ((hw k hk).parts p hp) (Ext.take l k)
theorem seen_find {l : List ObjA} {x : Int} {r : CellD × List Int} (h : seenA l x = some r) : ∃ k, findA l x = some k := by
  unfold seenA at h
  cases hf : findA l x with
  | none => rw [hf] at h; cases h
  | some k => exact ⟨k, rfl⟩
def sumA (l : List ObjA) (ws : List Int) : Nat := (ws.map (sizeA l)).sum
theorem sumA_cons (l : List ObjA) (w : Int) (ws : List Int) : sumA l (w :: ws) = sizeA l w + sumA l ws := by simp [sumA]
theorem sumA_append (l : List ObjA) (a b : List Int) : sumA l (a ++ b) = sumA l a + sumA l b := by simp [sumA]
theorem sizesF_sum (l : List ObjA) : ∀ (ps : List Int) (s : Nat), s ≤ 1025 → sizesF l s ps = min (s + sumA l ps) 1025
  | [], s, h => by simp [sizesF, sumA]; omega
  | p :: ps, s, h => by
    show sizesF l (min (s + sizeA l p) 1025) ps = _
    rw [sizesF_sum l ps _ (Nat.min_le_right _ _), sumA_cons]
    omega
theorem sumA_ext {l l' : List ObjA} (e : Ext l l') : ∀ (ps : List Int), (∀ p ∈ ps, FindOk l p) → sumA l' ps = sumA l ps
  | [], _ => rfl
  | p :: ps, h => by
    obtain ⟨k, hk⟩ := Option.isSome_iff_exists.1 (h p (by simp)).1
    rw [sumA_cons, sumA_cons, e.size hk, sumA_ext e ps (fun q hq => h q (by simp [hq]))]
theorem seen_size {l : List ObjA} (hw : WfA l) {x : Int} {c : CellD} {ps : List Int} (h : seenA l x = some (c, ps)) : sizeA l x = min (1 + sumA l ps) 1025 := by
  rcases seen_obj h with ⟨hf, _, rfl⟩ | ⟨k, hk, hf, _, rfl⟩
  · unfold sizeA
    rw [hf]
    simp [sumA]
  · unfold sizeA
    rw [hf]
    simp only
    rw [if_neg (by omega), Int.toNat_natCast, List.getElem?_eq_getElem hk]
    simp only [Option.map_some, Option.getD_some]
    have ho := hw k hk
    rw [ho.size]
    unfold sizesA
    rw [sizesF_sum _ _ _ (by omega), sumA_ext (Ext.take l k) _ ho.parts]
theorem tells_sum {l : List ObjA} (hw : WfA l) {ws : List Int} {t : List CellD} (h : Tells l ws t) : min (sumA l ws) 1025 = min t.length 1025 := by
  induction h with
  | nil => rfl
  | cons hs _ ih =>
    rw [sumA_cons, seen_size hw hs]
    rw [sumA_append] at ih
    rw [List.length_cons]
    omega
theorem tells_size {l : List ObjA} (hw : WfA l) {x : Int} {t : List CellD} (h : Tells l [x] t) : sizeA l x = min t.length 1025 := by
  have := tells_sum hw h
  rw [sumA_cons] at this
  have h2 := hw.size_le x
  simp only [sumA, List.map_nil, List.sum_nil] at this
  omega
theorem tells_len {l : List ObjA} {ws : List Int} {t : List CellD} (h : Tells l ws t) : ws.length ≤ t.length := by
  induction h with
  | nil => exact Nat.le_refl _
  | cons _ _ ih => rw [List.length_append] at ih; simp; omega
theorem tells_ok {l : List ObjA} {ws : List Int} {t : List CellD} (h : Tells l ws t) : ∀ w ∈ ws, ∃ r, seenA l w = some r := by
  induction h with
  | nil => intro w hw; cases hw
  | cons hs _ ih =>
    intro w hw
    rcases List.mem_cons.1 hw with rfl | hw
    · exact ⟨_, hs⟩
    · exact ih w (by simp [hw])

/-! the worlds of Get -/
structure GetRep (w wr : World) (T : List CellD) (sB : List Int) (vT vS : Value) : Prop where
  base : Below w.heap.size w wr
  out : wr.ownsRow w.heap.size 40 3 vT T.length (encs T)
  stk : wr.ownsRow w.heap.size 27 1 vS sB.length (encW sB)
  ne : ∀ k, vT.ownBlock = some k → vS.ownBlock ≠ some k
theorem GetRep.below {w wr w' : World} {T : List CellD} {sB : List Int} {vT vS : Value} (h : GetRep w wr T sB vT vS) (hB : Below wr.heap.size wr w') : GetRep w w' T sB vT vS :=
  ⟨below_then h.base hB, row_below h.out hB, row_below h.stk hB, h.ne⟩
theorem encW_snoc (l : List Int) (x : Int) : encW (l ++ [x]) = encW l ++ [.int .u64 x] := by simp [encW]
theorem GetRep.last {w wr : World} {T : List CellD} {sB : List Int} {y : Int} {vT vS : Value} (h : GetRep w wr T (sB ++ [y]) vT vS) :
    ∃ g cap, vS = .slice (some ⟨g, 0, none⟩) (sB.length + 1) cap ∧ sB.length + 1 ≤ cap ∧ wr.cell? ⟨g, sB.length, none⟩ = some (.int .u64 y) := by
  have hr := h.stk
  rw [List.length_append, List.length_singleton, encW_snoc] at hr
  rcases hr.2 with ⟨_, h0⟩ | ⟨g, cap, cur, rfl, _, _, hc, _⟩
  · omega
  · refine ⟨g, cap, rfl, hc, ?_⟩
    rw [hr.cellAt _ (by omega), List.getElem?_append_right (by rw [encW_len]; omega), encW_len]
    simp
theorem GetRep.pop {w wr : World} {T : List CellD} {sB : List Int} {y : Int} {vT : Value} {g cap : Nat} (h : GetRep w wr T (sB ++ [y]) vT (.slice (some ⟨g, 0, none⟩) (sB.length + 1) cap)) : GetRep w wr T sB vT (.slice (some ⟨g, 0, none⟩) sB.length cap) := by
  have hr := h.stk
  rw [List.length_append, List.length_singleton, encW_snoc] at hr
  exact ⟨h.base, h.out, ownsRow_pop (encW_len sB) hr, h.ne⟩
theorem below_grown {w wa w' : World} {row : Option Nat} (h : Below w.heap.size w wa) (hg : wa.grownBy w' row) (hr : ∀ k, row = some k → w.heap.size ≤ k) : Below w.heap.size w w' :=
  h.grown hg h.size hr
theorem GetRep.more {w wr wa w' : World} {T : List CellD} {sB : List Int} {vT vS : Value} (h : GetRep w wr T sB vT vS) (hB : Below wr.heap.size wr wa) (hg : wa.grownBy w' vT.ownBlock) {c : CellD} {g cap : Nat}
    (hrow : w'.ownsRow w.heap.size 40 3 (.slice (some ⟨g, 0, none⟩) (T.length + 1) cap) (T.length + 1) (encs T ++ [.int .i64 c.kind, .int .i64 c.n, .string c.text])) (hat : vT.ownBlock = some g ∨ wa.heap.size ≤ g) :
    GetRep w w' (T ++ [c]) sB (.slice (some ⟨g, 0, none⟩) (T.length + 1) cap) vS := by
  have h := h.below hB
  refine ⟨below_grown h.base hg (row_base h.out), ?_, h.stk.kept hg ?_, fun k hk e => ?_⟩
  · rw [List.length_append, List.length_singleton, encs_append]
    exact hrow
  · cases hv : vS.ownBlock with
    | none => exact .inl rfl
    | some k => exact .inr (fun e => h.ne k e.symm hv)
  · have eg : g = k := by simpa [Value.ownBlock] using hk
    subst eg
    rcases hat with h' | h'
    · exact h.ne g h' e
    · have := row_lt h.stk g e; omega
theorem GetRep.push {w wr wa w' : World} {T : List CellD} {sB : List Int} {vT vS : Value} (h : GetRep w wr T sB vT vS) (hB : Below wr.heap.size wr wa) (hg : wa.grownBy w' vS.ownBlock) {y : Int} {g cap : Nat}
    (hrow : w'.ownsRow w.heap.size 27 1 (.slice (some ⟨g, 0, none⟩) (sB.length + 1) cap) (sB.length + 1) (encW sB ++ [.int .u64 y])) (hat : vS.ownBlock = some g ∨ wa.heap.size ≤ g) :
    GetRep w w' T (sB ++ [y]) vT (.slice (some ⟨g, 0, none⟩) (sB.length + 1) cap) := by
  have h := h.below hB
  refine ⟨below_grown h.base hg (row_base h.stk), h.out.kept hg ?_, ?_, fun k hk e => ?_⟩
  · cases hv : vT.ownBlock with
    | none => exact .inl rfl
    | some k => exact .inr (fun e => h.ne k hv e.symm)
  · rw [List.length_append, List.length_singleton, encW_snoc]
    exact hrow
  · have eg : g = k := by simpa [Value.ownBlock] using e
    subst eg
    rcases hat with h' | h'
    · exact h.ne g hk h'
    · have := row_lt h.out g hk; omega
/-- What kind of answer Get gives. -/
def IsGet (w w' : World) (t : List CellD) (e : Ending) : Prop :=
  if t.length ≤ 1024 then ∃ A c, e = .returned (.tuple #[.slice A t.length c, .int .i64 0]) ∧ w'.ownsRow w.heap.size 40 3 (.slice A t.length c) t.length (encs t)
  else e = .returned (.tuple #[.slice none 0 0, .int .i64 7])
theorem cell_seen_agg (c : CellD) : c.agg = .agg #[.int .i64 c.kind, .int .i64 c.n, .string c.text] := rfl
set_option maxHeartbeats 1000000 in
theorem get_large (w : World) (O : Nat → Prop) (ba room : Nat) (l : List ObjA) (x : Int) (t : List CellD) (h0 : 0 ≤ x) (h1 : x < 18446744073709551616) (h : ArAt w O ba room l) (ht : Tells l [x] t) (hl : ¬ t.length ≤ 1024) :
    Calls Tryd.prog 24 #[.pointer (some ⟨ba, 0, none⟩), .int .u64 x] w fun e w' => IsGet w w' t e ∧ Below w.heap.size w w' := by
  have hsz := tells_size h.wf ht
  obtain ⟨⟨c, ps⟩, hs⟩ := tells_ok ht x (by simp)
  obtain ⟨k, hk⟩ := seen_find hs
  have hseen := seen_any w O ba room l x h0 h1 h
  rw [hs] at hseen
  rw [Nat.min_eq_right (by omega)] at hsz
  have H := Lib.hid hl
  clear hl hs ht
  go_enter Tryd.func24, Tryd.ntmps24
  go_wp2_with fail
  refine hseen.mono ?_
  rintro e w1 ⟨⟨A, cap, rfl, _⟩, hB⟩
  rw [cell_seen_agg]
  have hB2 := below_alloc' hB (.cells #[.int .i64 c.kind, .int .i64 c.n, .string c.text] 40)
  have hz := asize_any _ O ba room l x k h0 h1 (h.below hB2) hk
  rw [hsz] at hz
  go_wp2_with fail
  refine hz.mono ?_
  rintro e w2 ⟨rfl, hb⟩
  go_wp2
  go_ret2
  refine ⟨?_, below_then hB2 hb⟩
  unfold IsGet
  rw [if_neg H.out]
  rfl
set_option maxHeartbeats 1000000 in
theorem get_none (w : World) (O : Nat → Prop) (ba room : Nat) (l : List ObjA) (x : Int) (h0 : 0 ≤ x) (h1 : x < 18446744073709551616) (h : ArAt w O ba room l) (hs : seenA l x = none) :
    Calls Tryd.prog 24 #[.pointer (some ⟨ba, 0, none⟩), .int .u64 x] w fun e w' => e = .returned (.tuple #[.slice none 0 0, .int .i64 31]) ∧ Below w.heap.size w w' := by
  have hseen := seen_any w O ba room l x h0 h1 h
  rw [hs] at hseen
  go_enter Tryd.func24, Tryd.ntmps24
  go_wp2_with fail
  refine hseen.mono ?_
  rintro e w1 ⟨he, hB⟩
  obtain rfl : e = _ := he
  rw [cell_seen_agg]
  have hB2 := below_alloc' hB (.cells #[.int .i64 zeroC.kind, .int .i64 zeroC.n, .string zeroC.text] 40)
  go_wp2
  go_ret2
  exact ⟨rfl, hB2⟩
theorem outword_info : (Tryd.prog.info? 40).map (fun i => (i.zero, i.size, i.bytes)) = some (some (.agg #[.int .i64 0, .int .i64 0, .string ⟨#[]⟩]), 3, 32) := by kernel_rfl
theorem one3 {a b : Int} {t : ByteArray} : ∀ u ∈ ([.int .i64 a, .int .i64 b, .string t] : List Value), u.oneCell' = true := by
  intro u hu
  simp at hu
  rcases hu with rfl | rfl | rfl <;> rfl
/-- What is still to be told. -/
structure GetNow (l : List ObjA) (t T : List CellD) (sB : List Int) : Prop where
  rest : ∃ u, t = T ++ u ∧ Tells l sB.reverse u
  ok : ∀ p ∈ sB, FindOk l p
set_option maxRecDepth 10000 in
set_option maxHeartbeats 4000000 in
theorem get_good (w : World) (O : Nat → Prop) (ba room : Nat) (l : List ObjA) (x : Int) (t : List CellD) (h0 : 0 ≤ x) (h1 : x < 18446744073709551616) (h : ArAt w O ba room l) (ht : Tells l [x] t) (hl : t.length ≤ 1024) :
    Calls Tryd.prog 24 #[.pointer (some ⟨ba, 0, none⟩), .int .u64 x] w fun e w' => IsGet w w' t e ∧ Below w.heap.size w w' := by
  have hsz := tells_size h.wf ht
  obtain ⟨⟨c, ps⟩, hs⟩ := tells_ok ht x (by simp)
  obtain ⟨k, hk⟩ := seen_find hs
  have hseen := seen_any w O ba room l x h0 h1 h
  rw [hs] at hseen
  rw [Nat.min_eq_left (by omega)] at hsz
  have H := Lib.hid hl
  have HA := Lib.hid h
  have HT := Lib.hid ht
  have HF := Lib.hid (show FindOk l x from ⟨by rw [hk]; rfl, h0, h1⟩)
  have HWF := Lib.hid h.wf
  clear hs ht h
  go_enter Tryd.func24, Tryd.ntmps24
  go_wp2_with fail
  refine hseen.mono ?_
  rintro e w1 ⟨⟨A, cap, rfl, _⟩, hB⟩
  rw [cell_seen_agg]
  have hB2 := below_alloc' hB (.cells #[.int .i64 c.kind, .int .i64 c.n, .string c.text] 40)
  have hz := asize_any _ O ba room l x k h0 h1 (HA.out.below hB2) hk
  rw [hsz] at hz
  go_wp2_with fail
  refine hz.mono ?_
  rintro e w2 ⟨rfl, hb⟩
  have HB := Lib.hid (below_then hB2 hb)
  have hs0 := HB.out.size
  clear hz hb hB2 hB hseen hk hsz
  go_wp2_with fail
  go_loopw [9, 10] (fun vT vS wr => ∃ (T : List CellD) (sB : List Int), Hid (GetRep w wr T sB vT vS) ∧ Hid (GetNow l t T sB)) (fun vT vS wr => t.length - sliceLen vT)
  case atStart =>
    refine ⟨[], [x], Lib.hid ⟨below_alloc' HB.out _, row_nil _ _ _ _, ?_, fun k hk => by simp [Value.ownBlock] at hk⟩, Lib.hid ⟨⟨t, by simp, HT.out⟩, fun p hp => by rw [List.mem_singleton.1 hp]; exact HF.out⟩⟩
    exact ⟨by simp [encW], .inr ⟨w2.heap.size, 1, #[.int .u64 x], rfl, hs0, heap_new w2 _, Nat.le_refl _, by decide, rfl, rfl⟩⟩
  case round =>
    obtain ⟨T, sB, hR, hN⟩ := hrel
    rcases List.eq_nil_or_concat sB with rfl | ⟨s0, y, rfl⟩
    · obtain ⟨AS, cS, hvS⟩ := row_slice hR.out.stk
      rw [List.length_nil] at hvS
      subst hvS
      obtain ⟨u, hu, htl⟩ := hN.out.rest
      have hu0 : u = [] := by cases htl; rfl
      rw [hu0, List.append_nil] at hu
      subst hu
      obtain ⟨AT, cT, rfl⟩ := row_slice hR.out.out
      go_wp2
      go_ret2
      refine ⟨?_, hR.out.base⟩
      unfold IsGet
      rw [if_pos H.out]
      exact ⟨AT, cT, rfl, hR.out.out⟩
    · rw [List.concat_eq_append] at hR hN
      obtain ⟨g, cp, rfl, hcp, q0⟩ := hR.out.last
      obtain ⟨u, hu, htl⟩ := hN.out.rest
      have hyok := hN.out.ok y (by simp)
      rw [List.reverse_append, List.reverse_singleton, List.singleton_append] at htl
      cases htl with
      | @cons _ _ c2 ps2 u2 hs2 ht2 =>
      have hAr := HA.out.below hR.out.base
      have hsn := seen_any wr O ba room l y hyok.2.1 hyok.2.2 hAr
      rw [hs2] at hsn
      have hps := seen_parts HWF.out hs2
      have HN2 : Hid (GetNow l t (T ++ [c2]) (s0 ++ ps2.reverse)) := Lib.hid ⟨⟨u2, by rw [hu]; simp, by simpa using ht2⟩, fun p hp => by
        rcases List.mem_append.1 hp with hp | hp
        · exact hN.out.ok p (by simp [hp])
        · exact hps p (by simpa using hp)⟩
      have hlen2 := tells_len ht2
      rw [List.length_append, List.length_reverse] at hlen2
      have HTL : Hid (t.length = T.length + 1 + u2.length) := Lib.hid (by rw [hu]; simp; omega)
      have htlen : T.length + 1 + u2.length ≤ 1024 := by rw [← HTL.out]; exact H.out
      obtain ⟨m, hm⟩ : ∃ m, s0.length + 1 = m := ⟨_, rfl⟩
      have hs0' : s0.length = m - 1 := by omega
      rw [hs0'] at q0
      have HM := Lib.hid hm
      have g1 : decide ((0 : Int) < (m : Int)) = true := decide_eq_true (by omega)
      have g2 : 0 < m := by omega
      have w3 : IntKind.i64.wrap ((m : Int) - 1) = (m : Int) - 1 := by rw [IntKind.wrap_i64]; omega
      have b2 : (0 : Int) ≤ (m : Int) - 1 := by omega
      have b2' : (1 : Int) ≤ (m : Int) := by omega
      have d2 : (m : Int) - 1 < (m : Int) := by omega
      have t2 : ((m : Int) - 1).toNat = m - 1 := by omega
      have d3 : m - 1 < m := by omega
      have hcp' : m ≤ cp := by omega
      obtain ⟨AT, cT, rfl⟩ := row_slice hR.out.out
      rw [hm]
      have HR0 : Hid (GetRep w wr T (s0 ++ [y]) (.slice AT T.length cT) (.slice (some ⟨g, 0, none⟩) (s0.length + 1) cp)) := hR
      clear hR hN hu hs2 ht2 hps hyok hAr hm hs0'
      go_wp2_with fail
      refine hsn.mono ?_
      rintro e w3' ⟨⟨A2, cap2, rfl, hcap2, hW2, hO2⟩, hb3⟩
      rw [cell_seen_agg]
      have HO2 := Lib.hid hO2
      have hW4 := Lib.hid hW2
      have hq1 := HR0.out.pop
      rw [show s0.length = m - 1 by have := HM.out; omega] at hq1
      have HR1 := Lib.hid (hq1.below (below_alloc' hb3 (.cells #[.int .i64 c2.kind, .int .i64 c2.n, .string c2.text] 40)))
      have hs3 := HR1.out.base.size
      rw [World.size_alloc] at hs3
      obtain ⟨i0, hi, hz0, hz1, hz2⟩ := info_parts outword_info
      have hA1 : T.length + 1 ≤ maxLen := by unfold maxLen; omega
      have hA2 : (T.length + 1) * 32 ≤ 140737488355328 := by omega
      have hA3 : w.heap.size ≤ ((w3'.alloc (.cells #[.int .i64 c2.kind, .int .i64 c2.n, .string c2.text] 40)).alloc (.cells #[.int .i64 c2.kind, .int .i64 c2.n, .string c2.text] 40)).heap.size := by rw [World.size_alloc, World.size_alloc]; omega
      have hA4 := heap_alloc_new (w3'.alloc (.cells #[.int .i64 c2.kind, .int .i64 c2.n, .string c2.text] 40)) (.cells #[.int .i64 c2.kind, .int .i64 c2.n, .string c2.text] 40)
      rw [World.size_alloc] at hA4
      clear hq1 hW2 hO2 hsn
      go_wp2_with (at_builtin
                   refine wpList_append_lies _ rfl _ _ _ rfl w.heap.size 40 i0 _ 3 32 Tryd.underlying22 hi hz0 hz1 hz2 rfl (by omega) (.slice AT T.length cT) T.length (encs T) rfl (HR1.out.out.alloc _) ⟨w3'.heap.size + 1, 0, none⟩ 1 1 [.int .i64 c2.kind, .int .i64 c2.n, .string c2.text] rfl rfl (World.news_of_block (cs := #[.int .i64 c2.kind, .int .i64 c2.n, .string c2.text]) (t := 40) (fr := (0, 0)) hA4) one3 (by omega) hA1 hA2 hA3 _ rfl ?_
                   intro g2 capT w6 hown6 hgrow6 hat6 hlt6)
      have HR2 := Lib.hid (HR1.out.more (below_one _ _) hgrow6 hown6 (hat6.imp id (fun e => by omega)))
      have HB3 := Lib.hid hb3
      have HW5 : Hid (WReads w6 A2 ps2) := Lib.hid (hW4.out.same fun g o e => by
        have hlt := (HA.out.lim g (HO2.out g o e)).2
        have h1 := HR2.out.base.block g hlt
        have h2 := (below_then HR0.out.base HB3.out).block g hlt
        rw [h1, h2])
      clear hgrow6 hown6 hat6 hlt6 hA1 hA2 hA3 hA4 hb3 hW4 HR1 hs3 hi hz0 hz1 hz2 i0 q0
      go_loopw [10, 57] (fun vS i wr => ∃ (j : Nat), j ≤ ps2.length ∧ i = .int .i64 (j : Int) ∧ Hid (GetRep w wr (T ++ [c2]) (s0 ++ ps2.reverse.take j) (.slice (some ⟨g2, 0, none⟩) (T.length + 1) capT) vS)) (fun vS i wr => ps2.length - (intOf i).toNat)
      case atStart => exact ⟨0, Nat.zero_le _, rfl, by simpa using HR2⟩
      case round =>
        obtain ⟨j, hj, rfl, hG⟩ := hrel
        by_cases hlt : j < ps2.length
        · have hidx : ps2.length - 1 - j < ps2.length := by omega
          have hWr : WReads wr A2 ps2 := HW5.out.same fun g o e => by
            have hlt := (HA.out.lim g (HO2.out g o e)).2
            rw [hG.out.base.block g hlt, HR2.out.base.block g hlt]
          obtain ⟨b, o, rfl, hc⟩ := hWr (ps2.length - 1 - j) hidx
          have hnext : s0 ++ ps2.reverse.take (j + 1) = (s0 ++ ps2.reverse.take j) ++ [ps2[ps2.length - 1 - j]] := by
            rw [List.take_succ_eq_append_getElem (by simpa using hlt), List.getElem_reverse, List.append_assoc]
          have HNX := Lib.hid hnext
          obtain ⟨M, hM⟩ : ∃ M, (s0 ++ ps2.reverse.take j).length = M := ⟨_, rfl⟩
          have hMle : M ≤ 1024 := by rw [← hM]; simp; omega
          obtain ⟨AS, cS, hvS⟩ := row_slice hG.out.stk
          rw [hM] at hvS
          subst hvS
          have HG := hG
          have hrow := hG.out.stk
          rw [hM] at hrow
          have HROW := Lib.hid hrow
          have HMM := Lib.hid hM
          obtain ⟨yv, hyv⟩ : ∃ v, ps2[ps2.length - 1 - j] = v := ⟨_, rfl⟩
          rw [hyv] at hc HNX
          obtain ⟨n, hn⟩ : ∃ n, ps2.length = n := ⟨_, rfl⟩
          have hsw := hG.out.base.size
          have e1 : IntKind.i64.wrap ((n : Int) - 1) = (n : Int) - 1 := by rw [IntKind.wrap_i64]; omega
          have e2 : IntKind.i64.wrap ((n : Int) - 1 - (j : Int)) = (n : Int) - 1 - (j : Int) := by rw [IntKind.wrap_i64]; omega
          have e3 : (0 : Int) ≤ (n : Int) - 1 - (j : Int) := by omega
          have e4 : (n : Int) - 1 - (j : Int) < (n : Int) := by omega
          have e5 : ((n : Int) - 1 - (j : Int)).toNat = n - 1 - j := by omega
          have e6 : n - 1 - j < n := by omega
          obtain ⟨j0, ji, jz0, jz1, jz2⟩ := info_parts word_info
          have hA1 : M + 1 ≤ maxLen := by unfold maxLen; omega
          have hA2 : (M + 1) * 8 ≤ 140737488355328 := by omega
          have hA3 : w.heap.size ≤ (wr.alloc (.cells #[.int .u64 yv] 27)).heap.size := by rw [World.size_alloc]; omega
          have HNN := Lib.hid hn
          rw [hn] at hc ⊢
          clear hG hrow hM hWr hnext hyv hn hidx
          go_wp2_with (at_builtin
                       refine wpList_append_lies _ rfl _ _ _ rfl w.heap.size 27 j0 _ 1 8 Tryd.underlying31 ji jz0 jz1 jz2 rfl (by omega) (.slice AS M cS) M (encW (s0 ++ ps2.reverse.take j)) rfl (HROW.out.alloc _) ⟨wr.heap.size, 0, none⟩ 1 1 [.int .u64 yv] rfl rfl (World.news_of_block (cs := #[.int .u64 yv]) (t := 27) (fr := (0, 0)) (heap_alloc_new wr _)) (by simp [Value.oneCell']) (by omega) hA1 hA2 hA3 (wr.heap.size + 1) (World.size_alloc _ _) ?_
                       intro g3 cap3 w7 hown7 hgrow7 hat7 hlt7)
          go_roundw
          case rel =>
            refine ⟨j + 1, by omega, by go_num, ?_⟩
            rw [HNX.out]
            have e := HMM.out
            subst e
            exact Lib.hid (HG.out.push (below_one wr _) hgrow7 hown7 (hat7.imp id (fun e => by rw [World.size_alloc]; omega)))
          case measure => simp [intOf]; omega
        · obtain rfl : j = ps2.length := by omega
          have e : ps2.reverse.take ps2.length = ps2.reverse := List.take_of_length_le (by simp)
          rw [e] at hG
          clear hlt hj
          go_wp2
          go_roundw
          case rel => exact ⟨T ++ [c2], s0 ++ ps2.reverse, hG, HN2⟩
          case measure => have := HTL.out; simp [sliceLen]; omega
theorem get_any (w : World) (O : Nat → Prop) (ba room : Nat) (l : List ObjA) (x : Int) (t : List CellD) (h0 : 0 ≤ x) (h1 : x < 18446744073709551616) (h : ArAt w O ba room l) (ht : Tells l [x] t) :
    Calls Tryd.prog 24 #[.pointer (some ⟨ba, 0, none⟩), .int .u64 x] w fun e w' => IsGet w w' t e ∧ Below w.heap.size w w' := by
  by_cases hl : t.length ≤ 1024
  · exact get_good w O ba room l x t h0 h1 h ht hl
  · exact get_large w O ba room l x t h0 h1 h ht hl
end Go.Proofs.YthgnihckeckaiaaDoor.Tm
