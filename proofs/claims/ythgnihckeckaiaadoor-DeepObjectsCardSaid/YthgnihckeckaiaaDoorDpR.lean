/- deep.Reach. -/
import Derived.Test.YthgnihckeckaiaaDoorCoW
import Derived.Test.YthgnihckeckaiaaDoorDpZ
namespace Go.Proofs.YthgnihckeckaiaaDoor.Tm
open Go.RowKit
set_option linter.unusedVariables false
set_option linter.unusedSimpArgs false

set_option maxHeartbeats 1000000 in
theorem reach1_any (w : World) (O : Nat → Prop) (ba room : Nat) (L : List ObjA) (x : Int) (ab nb N : Nat) (c : CellD) (ps : List Int) (hA : ArAt w O ba room L) (hT : TabsA w) (hab : BlkIs w ab #[.pointer (some ⟨ba, 0, none⟩)] 24) (hnb : BlkIs w nb #[.int .i64 (N : Int)] 3) (hN : N ≤ 1000000000000) (h0 : 0 ≤ x) (h1 : x < 18446744073709551616) (hs : seenA L x = some (c, ps)) (he : cellE c = 0) (hc : WfC c) :
    Calls Tryd.prog 85 #[.int .u64 x, .pointer (some ⟨ab, 0, none⟩), .pointer (some ⟨nb, 0, none⟩)] w fun e w' => e = .returned (.bool true) ∧ ∃ w1, Below w.heap.size w w1 ∧ w' = w1.setCell ⟨nb, 0, none⟩ (.int .i64 ((N + costC c : Nat) : Int)) := by
  have hco := acost_any w O ba room L x c ps h0 h1 hA hT hs hc he
  have hle := cost_le he
  have hkd := kidsD_le c
  have a0 := hab.cell 0 rfl
  have HNB := Lib.hid hnb
  obtain ⟨K, hK⟩ : ∃ K, costC c = K := ⟨_, rfl⟩
  rw [hK] at hco hle ⊢
  clear hA hT hs he hc hab hnb hK
  go_enter Tryd.func85, Tryd.ntmps85
  go_wp2_with fail
  refine hco.mono ?_
  rintro e w1 ⟨rfl, hB⟩
  have hn1 := HNB.out.below hB
  have n0 := hn1.cell 0 (v := .int .i64 (N : Int)) rfl
  have n1 := hn1.frozen 0
  have hwr : IntKind.i64.wrap ((N : Int) + (K : Int)) = ((N + K : Nat) : Int) := by rw [IntKind.wrap_i64]; omega
  clear hn1 hco
  go_wp2
  go_ret
  exact ⟨by first | rfl | simp, w1, hB, rfl⟩
/-- Between the rounds of Reach. -/
structure ReachSt (w : World) (ab nb ba room : Nat) (O : Nat → Prop) (L : List ObjA) (cs : Nat → Prop) (m : List Int) (W : World) : Prop where
  own : ∀ k, cs k → k = nb
  cn : cs nb
  ar : ArAt W O ba room L
  tabs : TabsA W
  fa : BlkIs W ab #[.pointer (some ⟨ba, 0, none⟩)] 24
  fb : BlkIs W nb #[.int .i64 (costsW L m : Int)] 3
  base : Below w.heap.size w W
theorem ReachSt.fr {w : World} {ab nb ba room lo : Nat} {O : Nat → Prop} {L : List ObjA} {cs : Nat → Prop} {m : List Int} {W1 W2 : World} (h : ReachSt w ab nb ba room O L cs m W1) (hf : Fr (Mine lo cs) W1 W2) (h1 : ab < lo) (h2 : ∀ k, O k → k < lo) (h3 : w.heap.size ≤ lo) (h4 : 3 ≤ lo) : ReachSt w ab nb ba room O L cs m W2 :=
  ⟨h.own, h.cn, h.ar.fr hf (fun k hk hm => by have := h2 k hk; have := hm.1; omega), h.tabs.fr hf (fun k hk => by have := hk.1; omega), h.fa.fr hf (fun hm => by have := hm.1; omega), h.fb.fr hf (fun hm => hm.2 h.cn), h.base.trans (hf.below h.base.size fun k hk => by have := hk.1; omega)⟩
theorem ReachSt.add {w : World} {ab nb ba room : Nat} {O : Nat → Prop} {L : List ObjA} {cs : Nat → Prop} {m : List Int} {x : Int} {W1 w1 : World} (h : ReachSt w ab nb ba room O L cs m W1) (hB : Below W1.heap.size W1 w1) (h1 : w.heap.size ≤ nb) (h2 : ∀ k, O k → k < w.heap.size) (h3 : ab ≠ nb) (h4 : 3 ≤ w.heap.size) {K : Nat} (hK : costW L x = K) :
    ReachSt w ab nb ba room O L cs (m ++ [x]) (w1.setCell ⟨nb, 0, none⟩ (.int .i64 ((costsW L m + K : Nat) : Int))) ∧ KpG cs cs W1 (w1.setCell ⟨nb, 0, none⟩ (.int .i64 ((costsW L m + K : Nat) : Int))) := by
  have hf : Fr (fun k => k = nb) w1 (w1.setCell ⟨nb, 0, none⟩ (.int .i64 ((costsW L m + K : Nat) : Int))) := fr_set (O := fun k => k = nb) (Fr.refl _ _) rfl _ _
  have hz : (w1.setCell ⟨nb, 0, none⟩ (.int .i64 ((costsW L m + K : Nat) : Int))).heap.size = w1.heap.size := by simp [World.setCell]
  refine ⟨⟨h.own, h.cn, (h.ar.below hB).fr hf (fun k hk e => by have := h2 k hk; omega), (h.tabs.below hB).fr hf (fun k e => by omega), (h.fa.below hB).fr hf (fun e => h3 e), ?_, (below_then h.base hB).trans (hf.below (by have := h.base.size; have := hB.size; omega) fun k e => by omega)⟩, ⟨by have := hB.size; omega, fun k o hk ho _ => ?_, fun k hk => ⟨.inl hk, ?_⟩⟩⟩
  · have := (h.fb.below hB).set 0 (.int .i64 ((costsW L m + K : Nat) : Int))
    rw [costsW_snoc, hK]
    exact this
  · rw [hf.block k (by have := lt_of_block ho; have := hB.size; omega) (fun e => hk (e ▸ h.cn)), hB.block k (lt_of_block ho)]
    exact ho
  · rw [h.own k hk, hz]
    exact (h.fb.below hB).lt
def reachE (L : List ObjA) (roots : List Int) : Int := if allFind L roots = true then 0 else 31
def reachN (L : List ObjA) (roots : List Int) : Nat := if allFind L roots = true then costsW L (roots.foldl (visW L) []) else 0
theorem fold_find {L : List ObjA} (hw : WfA L) {roots : List Int} (hx : ∀ x ∈ roots, FindOk L x) : MetOk L (roots.foldl (visW L) []) :=
  fold_ok hw roots [] ⟨List.nodup_nil, fun x hx => (by cases hx)⟩ hx
set_option maxRecDepth 10000 in
set_option maxHeartbeats 4000000 in
theorem reach_any (w : World) (O : Nat → Prop) (ba room : Nat) (L : List ObjA) (roots : List Int) (A : Option Addr) (cap : Nat) (hA : ArAt w O ba room L) (hT : TabsA w) (hcl : ∀ o ∈ L, WfC o.cell) (hr : WReads w A roots) (hx : ∀ x ∈ roots, 0 ≤ x ∧ x < 18446744073709551616) (hAb : ∀ b o, A = some ⟨b, o, none⟩ → b < w.heap.size) (hlen : roots.length ≤ 1000000000000000000) :
    Calls Tryd.prog 37 #[.pointer (some ⟨ba, 0, none⟩), .slice A roots.length cap] w fun e w' => e = .returned (.tuple #[.int .i64 (reachN L roots : Int), .int .i64 (reachE L roots)]) ∧ Below w.heap.size w w' := by
  have h3 := tabs_size hT
  have hwf := hA.wf
  have hlims := hA.lims
  have hll := hwf.len
  have hB0 := below_one w (.cells #[.pointer (some ⟨ba, 0, none⟩)] 24)
  have BA : BlkIs (w.alloc (.cells #[.pointer (some ⟨ba, 0, none⟩)] 24)) w.heap.size #[.pointer (some ⟨ba, 0, none⟩)] 24 := heap_new w _
  have HA := Lib.hid hA
  have HT := Lib.hid hT
  have HCL := Lib.hid hcl
  have HR := Lib.hid hr
  have HX := Lib.hid hx
  have HAB := Lib.hid hAb
  have HWF := Lib.hid hwf
  have HBA := Lib.hid BA
  have HB0 := Lib.hid hB0
  have b0 := BA.cell 0 rfl
  clear hA hT hcl hr hx hAb hwf BA hB0
  go_enter Tryd.func37, Tryd.ntmps37
  go_wp2_with fail
  go_loopw [13] (fun i wr => ∃ j : Nat, j ≤ roots.length ∧ i = .int .i64 (j : Int) ∧ Hid (Below (w.alloc (.cells #[.pointer (some ⟨ba, 0, none⟩)] 24)).heap.size (w.alloc (.cells #[.pointer (some ⟨ba, 0, none⟩)] 24)) wr) ∧ Hid (∀ q (h : q < roots.length), q < j → (findA L roots[q]).isSome = true)) (fun i wr => roots.length - (intOf i).toNat)
  case atStart => exact ⟨0, Nat.zero_le _, rfl, Lib.hid (Below.refl _ _), Lib.hid (fun q _ h => absurd h (Nat.not_lt_zero q))⟩
  case round =>
    obtain ⟨j, hj, rfl, hB, hF⟩ := hrel
    have hBw := Lib.hid (below_then HB0.out hB.out)
    have b0' := (HBA.out.below hB.out).cell 0 (v := .pointer (some ⟨ba, 0, none⟩)) rfl
    by_cases hlt : j < roots.length
    · obtain ⟨g, o, rfl, q0⟩ := (HR.out.below hBw.out) j hlt
      have hxr := HX.out roots[j] (List.getElem_mem hlt)
      have hj1 : (j : Int) < (roots.length : Int) := by omega
      have hj0 : (0 : Int) ≤ (j : Int) := Int.natCast_nonneg _
      have hbl : decide ((j : Int) < (roots.length : Int)) = true := decide_eq_true hj1
      obtain ⟨x, hxe⟩ : ∃ x, roots[j] = x := ⟨_, rfl⟩
      rw [hxe] at q0 hxr
      have hiw := isword_any wr O ba room L x hxr.1 hxr.2 (HA.out.below hBw.out)
      have HXE := Lib.hid hxe
      clear hxe
      cases hf : (findA L x).isSome with
      | true =>
        rw [hf] at hiw
        have HNF := Lib.hid (show ∀ q (h : q < roots.length), q < j + 1 → (findA L roots[q]).isSome = true from fun q hq hqj => by
          by_cases e : q = j
          · subst e
            rw [HXE.out]
            exact hf
          · exact hF.out q hq (by omega))
        clear hf hF
        go_wp2_with fail
        refine hiw.mono ?_
        rintro e w2 ⟨rfl, hb2⟩
        have HB2 := Lib.hid (below_then hB.out hb2)
        clear hb2 hiw q0
        go_wp2
        go_roundw
        case rel => exact ⟨j + 1, by omega, by go_num, HB2, HNF⟩
        case measure => simp [intOf]; omega
      | false =>
        rw [hf] at hiw
        have hbad : allFind L roots = false := allFind_bad hlt (by
          rw [HXE.out]
          cases h : findA L x with
          | none => rfl
          | some k => rw [h] at hf; cases hf)
        have HE := Lib.hid (⟨by unfold reachE; rw [hbad]; rfl, by unfold reachN; rw [hbad]; rfl⟩ : reachE L roots = 31 ∧ reachN L roots = 0)
        clear hf hF hbad
        go_wp2_with fail
        refine hiw.mono ?_
        rintro e w2 ⟨rfl, hb2⟩
        have HB2 := Lib.hid (below_then hBw.out hb2)
        clear hb2 hiw q0
        go_wp2
        go_ret2
        rw [HE.out.1, HE.out.2]
        exact ⟨rfl, HB2.out⟩
    · have hbl : decide ((j : Int) < (roots.length : Int)) = false := decide_eq_false (by omega)
      have hall : allFind L roots = true := allFind_all fun q hq => hF.out q hq (by omega)
      have hxok : ∀ x ∈ roots, FindOk L x := fun x hx => by
        obtain ⟨q, hq, rfl⟩ := List.mem_iff_getElem.1 hx
        exact ⟨hF.out q hq (by omega), HX.out _ hx⟩
      have HE := Lib.hid (⟨by unfold reachE; rw [if_pos hall], by unfold reachN; rw [if_pos hall]⟩ : reachE L roots = 0 ∧ reachN L roots = costsW L (roots.foldl (visW L) []))
      have HOK := Lib.hid hxok
      have hBn := below_one wr (.cells #[.int .i64 0] 3)
      have BN : BlkIs (wr.alloc (.cells #[.int .i64 0] 3)) wr.heap.size #[.int .i64 0] 3 := heap_new wr _
      have hsz := hBw.out.size
      have hsz1 : w.heap.size < wr.heap.size := by have := hB.out.size; rw [World.size_alloc] at this; omega
      have hBt := below_then hBw.out hBn
      have b1 := cell_below hBn b0'
      have HSt : Hid (ReachSt w w.heap.size wr.heap.size ba room O L (fun k => k = wr.heap.size) [] (wr.alloc (.cells #[.int .i64 0] 3))) := Lib.hid ⟨fun k h => h, rfl, HA.out.below hBt, HT.out.below hBt, (HBA.out.below hB.out).below hBn, BN, hBt⟩
      have hwk := walk_reach 3 (by omega) (.pointer (some ⟨w.heap.size, 0, none⟩)) (.pointer (some ⟨wr.heap.size, 0, none⟩)) (wr.alloc (.cells #[.int .i64 0] 3)) O ba room L roots A cap (HA.out.below hBt) (HR.out.below hBt) hxok hlen
        (ReachSt w w.heap.size wr.heap.size ba room O L) (fun _ _ _ => False) (fun k => k = wr.heap.size) (fun k h => ⟨by rw [World.size_alloc]; omega, fun ho => by have := (HA.out.lim k ho).2; omega⟩) (fun b o e => ⟨by rw [World.size_alloc]; have := HAB.out b o e; omega, fun h => by have := HAB.out b o e; omega⟩)
        (fun cs pre W1 W2 h hf => h.fr hf (by rw [World.size_alloc]; omega) (fun k hk => by rw [World.size_alloc]; have := (HA.out.lim k hk).2; omega) (by rw [World.size_alloc]; omega) (by rw [World.size_alloc]; omega))
        (fun cs pre x W1 h hcs hpre => by
          have hT' := fold_find HWF.out HOK.out
          have hxm : x ∈ roots.foldl (visW L) [] := hpre.subset (by simp)
          have hxo := (hT'.ok x hxm).1
          obtain ⟨c, ps, hs⟩ := find_seen hxo
          obtain ⟨g1, g2⟩ := seen_good HWF.out HCL.out hs
          have hcw : costW L x = costC c := by unfold costW; rw [hs]
          have hb1 := costsW_le HWF.out HCL.out pre
          have hpl := hpre.length_le
          have htl := hT'.len
          rw [List.length_append, List.length_singleton] at hpl
          refine (reach1_any W1 O ba room L x w.heap.size wr.heap.size (costsW L pre) c ps h.ar h.tabs h.fa h.fb (by omega) hxo.2.1 hxo.2.2 hs g1 g2).mono ?_
          rintro e V ⟨rfl, w1, hb, rfl⟩
          obtain ⟨k1, k2⟩ := h.add hb (by omega) (fun k hk => (HA.out.lim k hk).2) (by omega) (by omega) hcw
          exact ⟨cs, .inl ⟨rfl, k1⟩, k2⟩)
        HSt.out
      clear hF hall hxok BN hBt hBn b0' HSt
      go_wp2_with fail
      refine hwk.mono ?_
      rintro e V ⟨⟨v, rfl⟩, (⟨cs, h⟩ | ⟨cs, pre, _, h⟩)⟩
      · have n0 := h.fb.cell 0 (v := .int .i64 (costsW L (roots.foldl (visW L) []) : Int)) rfl
        have HBE := Lib.hid h.base
        clear h hwk
        go_wp2
        go_ret2
        rw [HE.out.1, HE.out.2]
        exact ⟨rfl, HBE.out⟩
      · exact h.elim
end Go.Proofs.YthgnihckeckaiaaDoor.Tm
