/- DeepCopies: the walk. -/
import Derived.Test.YtemamhjcboelcaaDoorDlN
import Derived.Test.YtemamhjcboelcaaDoorDpN
namespace Go.Proofs.YtemamhjcboelcaaDoor.Tm
open Go.RowKit
set_option linter.unusedVariables false
set_option linter.unusedSimpArgs false

theorem moves_apart {O O2 : Nat → Prop} {ba room bb room2 : Nat} {L L2 : List ObjA} (hd : ∀ k, O k → ¬ O2 k) (hc : ∀ o ∈ L, WfC o.cell) : Moves O O2 ba room bb room2 L L2 := fun W W' L2' hA hM _ _ => by
  obtain ⟨O', b1, b2, b3, b4⟩ := hM
  exact ⟨O, L, hA.fr b4 hd, Ext.refl L, hc⟩
theorem moves_same {O : Nat → Prop} {ba room : Nat} {L : List ObjA} : Moves O O ba room ba room L L := fun W W' L2' hA hM he hc => by
  obtain ⟨O', b1, _, _, _⟩ := hM
  exact ⟨O', L2', b1, he, hc⟩
theorem CopyIn.next {w w' : World} {O O2 : Nat → Prop} {ba room bb room2 : Nat} {L L2 L2' : List ObjA} {l m : List Int} {A B : Option Addr} (h : CopyIn w O O2 ba room bb room2 L L2 l m A B) (hd : ∀ k, O k → ¬ O2 k) (hM : Made w w' O2 bb room2 L2') (he : Ext L2 L2') (hc : ∀ o ∈ L2', WfC o.cell) :
    ∃ O2', CopyIn w' O O2' ba room bb room2 L L2' l m A B ∧ (∀ k, O k → ¬ O2' k) ∧ (∀ k, O2' k → O2 k ∨ w.heap.size ≤ k) ∧ Fr O2 w w' := by
  obtain ⟨O', b1, b2, b3, b4⟩ := hM
  have hs := b4.size
  have nb : ∀ g, ¬ O2 g → g < w.heap.size → ¬ O' g := fun g h1 h2 h3 => by
    rcases b3 g h3 with h4 | h4
    · exact h1 h4
    · omega
  refine ⟨O', ⟨h.a1.fr b4 hd, b1, h.c1, hc, h.x1, fun x hx => (h.x2 x hx).ext he, wr_fr0 h.r1 b4 (fun h0 g o e => (h.b1 h0 g o e).1), wr_fr0 h.r2 b4 (fun h0 g o e => (h.b2 h0 g o e).1), fun h0 g o e => ⟨nb g (h.b1 h0 g o e).1 (h.b1 h0 g o e).2, by have := (h.b1 h0 g o e).2; omega⟩, fun h0 g o e => ⟨nb g (h.b2 h0 g o e).1 (h.b2 h0 g o e).2, by have := (h.b2 h0 g o e).2; omega⟩, h.l1, h.l2⟩, fun k hk ho => nb k (hd k hk) (h.a1.lim k hk).2 ho, b3, b4⟩
set_option maxRecDepth 10000 in
set_option maxHeartbeats 4000000 in
theorem deepCopies_row (A : Option Addr) (cap : Nat) (ops : List Op4) (A2 : Option Addr) (cap2 : Nat) (ops2 : List Op4) (n x rm : Int) (w : World) (hT : TabsA w) (hcap : ops.length ≤ cap) (hr : Script4 w A ops) (hk : ∀ op ∈ ops, Op4Ok op) (hl : ops.length ≤ 1000000000000000) (hcap2 : ops2.length ≤ cap2) (hr2 : Script4 w A2 ops2) (hk2 : ∀ op ∈ ops2, Op4Ok op) (hl2 : ops2.length ≤ 1000000000000000) (wn : (Lit.int .i64 n).wf = true) (wx : (Lit.int .u64 x).wf = true) (wr : (Lit.int .i64 rm).wf = true) :
    Calls Tryd.prog 9 #[.slice A ops.length cap, .slice A2 ops2.length cap2, .int .i64 n, .int .u64 x, .int .i64 rm] w fun e w' => e = .returned (.bool true) ∧ Below w.heap.size w w' := by
  have hmk := made4_any w 4000 ops A cap hT hr hk hl hcap (by omega)
  have HT := Lib.hid hT
  have HR2 := Lib.hid hr2
  have HK2 := Lib.hid hk2
  have hxr := wf_word wx
  have hnr := wf_num wn
  have hrr := wf_num wr
  clear hT hr hk wx wn hr2 hk2 wr
  go_enter Tryd.func9, Tryd.ntmps9
  go_wp2_with fail
  refine hmk.mono ?_
  rintro e w1 ⟨ba, O, L, l, A1, c1, rfl, hM⟩
  have HM := Lib.hid hM
  have hll := hM.len
  have hcn := count_any rm 300 w1 (by omega) (by omega) hrr
  clear hmk hM
  go_wp2_with fail
  refine hcn.mono ?_
  rintro e w2 ⟨rk, hrk, rfl, hw⟩
  subst hw
  have hmk2 := made4_any w1 rk ops2 A2 cap2 (HT.out.below HM.out.base) (HR2.out.below HM.out.base) HK2.out hl2 hcap2 (by omega)
  clear hcn
  go_wp2_with fail
  refine hmk2.mono ?_
  rintro e w3 ⟨bb, O2, L2, l2, A12, c12, rfl, hM2⟩
  have hll2 := hM2.len
  have HBW := Lib.hid (below_then HM.out.base hM2.base)
  have HO2 := Lib.hid hM2.o1
  have hsz1 := HM.out.base.size
  have HI := Lib.hid (show CopyIn w3 O O2 ba 4000 bb rk L L2 l l2 A1 A12 from ⟨HM.out.ar.below hM2.base, hM2.ar, HM.out.cells, hM2.cells, HM.out.ok, hM2.ok, HM.out.rd.below hM2.base, hM2.rd, fun h0 g o e => by
      have h1 := wr_lt HM.out.rd h0 g o e
      exact ⟨fun ho => by have := hM2.o1 g ho; omega, by have := hM2.base.size; omega⟩, fun h0 g o e => ⟨(hM2.rb g o e).2, wr_lt hM2.rd h0 g o e⟩, hll, hll2⟩)
  have HD := Lib.hid (show ∀ k, O k → ¬ O2 k from fun k hk h => by have := (HM.out.ar.lim k hk).2; have := hM2.o1 k h; omega)
  have hpk := pick_any w3 l A1 c1 n (HM.out.rd.below hM2.base) (by omega) hnr
  clear hmk2 hM2
  go_wp2_with fail
  refine hpk.mono ?_
  rintro e w4 ⟨y, rfl, hy, hw⟩
  subst hw
  have hyo := (pick_ok HM.out.ok hy).2
  have hcp := copied_any w4 O O2 ba 4000 bb rk L L2 l l2 A1 A12 c1 c12 y HI.out (moves_apart HD.out HI.out.c1) (HT.out.below HBW.out) hyo
  clear hpk hy
  go_wp2_with fail
  refine hcp.mono ?_
  rintro e w5 ⟨rfl, L3, hM3, he3, hc3⟩
  obtain ⟨O3, hI3, hd3, ho3, hf3⟩ := HI.out.next HD.out hM3 he3 hc3
  have HI3 := Lib.hid hI3
  have HD3 := Lib.hid hd3
  have HB5 := Lib.hid (HBW.out.trans (hf3.below HBW.out.size fun k hk => by have := HO2.out k hk; omega))
  have HO3 := Lib.hid (show ∀ k, O3 k → w.heap.size ≤ k from fun k hk => by
    rcases ho3 k hk with h | h
    · have := HO2.out k h; omega
    · have := HBW.out.size; omega)
  have hcp2 := copied_any w5 O O3 ba 4000 bb rk L L3 l l2 A1 A12 c1 c12 x hI3 (moves_apart hd3 hI3.c1) (HT.out.below HB5.out) hxr
  clear hcp hM3 he3 hc3 hI3 hd3 ho3 hf3
  go_wp2_with fail
  refine hcp2.mono ?_
  rintro e w6 ⟨rfl, L4, hM4, he4, hc4⟩
  obtain ⟨O4, hI4, hd4, ho4, hf4⟩ := HI3.out.next HD3.out hM4 he4 hc4
  have HI4 := Lib.hid hI4
  have HB6 := Lib.hid (HB5.out.trans (hf4.below HB5.out.size fun k hk => HO3.out k hk))
  have hpk2 := pick_any w6 l A1 c1 n hI4.r1 (by omega) hnr
  clear hcp2 hM4 he4 hc4 hI4 hd4 ho4 hf4
  go_wp2_with fail
  refine hpk2.mono ?_
  rintro e w7 ⟨y2, rfl, hy2, hw⟩
  subst hw
  have hyo2 := (pick_ok HM.out.ok hy2).2
  have HIS := Lib.hid (show CopyIn w7 O O ba 4000 ba 4000 L L l l A1 A1 from ⟨HI4.out.a1, HI4.out.a1, HI4.out.c1, HI4.out.c1, HI4.out.x1, HI4.out.x1, HI4.out.r1, HI4.out.r1, fun h0 g o e => ⟨(HM.out.rb g o e).2, (HI4.out.b1 h0 g o e).2⟩, fun h0 g o e => ⟨(HM.out.rb g o e).2, (HI4.out.b1 h0 g o e).2⟩, hll, hll⟩)
  have hcp3 := copied_any w7 O O ba 4000 ba 4000 L L l l A1 A1 c1 c1 y2 HIS.out moves_same (HT.out.below HB6.out) hyo2
  clear hpk2 hy2
  go_wp2_with fail
  refine hcp3.mono ?_
  rintro e w8 ⟨rfl, L5, hM5, he5, hc5⟩
  have hf5 := made_fr hM5
  have HB8 := Lib.hid (HB6.out.trans (hf5.below HB6.out.size fun k hk => HM.out.o1 k hk))
  have hak := awake_any w8 (HT.out.below HB8.out)
  clear hcp3 hM5 he5 hc5 hf5
  go_wp2_with fail
  refine hak.mono ?_
  rintro e w9 ⟨rfl, hb9⟩
  go_wp2
  go_ret
  exact ⟨rfl, below_then HB8.out hb9⟩
end Go.Proofs.YtemamhjcboelcaaDoor.Tm
