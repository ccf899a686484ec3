/- DeepApart: the walk. -/
import Derived.Test.YtemamhjcboelcaaDoorDlN
import Derived.Test.YtemamhjcboelcaaDoorDpF
import Derived.Test.YtemamhjcboelcaaDoorDpH
namespace Go.Proofs.YtemamhjcboelcaaDoor.Tm
open Go.RowKit
set_option linter.unusedVariables false
set_option linter.unusedSimpArgs false

def overT : ByteArray := ⟨#[119, 114, 105, 116, 116, 101, 110, 32, 111, 118, 101, 114, 44, 32, 97, 110, 100, 32, 111, 118, 101, 114]⟩
def overC : CellD := ⟨8, 0, overT⟩
theorem over_reads {w : World} {g : Nat} {t : TypeId} (h : w.heap[g]? = some (.cells #[.int .i64 8, .int .i64 0, .string overT] t (0, 0))) : Reads w (some ⟨g, 0, none⟩) [overC] := by
  intro j hj
  have e : j = 0 := by simpa using hj
  subst e
  exact ⟨g, 0, rfl, by simp [World.cell?, h, overC], by simp [World.cell?, h, overC], by simp [World.cell?, h, overC]⟩
set_option maxRecDepth 10000 in
set_option maxHeartbeats 4000000 in
theorem deepApart_row (A : Option Addr) (cap : Nat) (ops : List Op4) (n : Int) (w : World) (hT : TabsA w) (hcap : ops.length ≤ cap) (hr : Script4 w A ops) (hk : ∀ op ∈ ops, Op4Ok op) (hl : ops.length ≤ 1000000000000000) (wn : (Lit.int .i64 n).wf = true) :
    Calls Tryd.prog 8 #[.slice A ops.length cap, .int .i64 n] w fun e w' => e = .returned (.bool true) ∧ Below w.heap.size w w' := by
  have hmk := made4_any w 4000 ops A cap hT hr hk hl hcap (by omega)
  have h3 := tabs_size hT
  have HT := Lib.hid hT
  have hnr := wf_num wn
  clear hT hr hk wn
  go_enter Tryd.func8, Tryd.ntmps8
  go_wp2_with fail
  refine hmk.mono ?_
  rintro e w1 ⟨ba, O, L, l, A1, c1, rfl, hM⟩
  have HM := Lib.hid hM
  have hs1 := hM.base.size
  have hll := hM.len
  have hnw := new_any 262144 w1 (by omega) (by omega)
  clear hmk hM
  go_wp2_with fail
  refine hnw.mono ?_
  rintro e w2 ⟨bb, O2, rfl, hA2, hO2, hB2⟩
  have hpk := pick_any w2 l A1 c1 n (HM.out.rd.below hB2) (by omega) hnr
  have HD := Lib.hid (show Duo w2 O O2 ba 4000 L bb 262144 [] from ⟨HM.out.ar.below hB2, hA2, fun k hk h => by have := (HM.out.ar.lim k hk).2; have := hO2 k h; omega⟩)
  have HBW := Lib.hid (below_then HM.out.base hB2)
  have HO2 := Lib.hid hO2
  clear hA2 hB2 hO2 hnw
  go_wp2_with fail
  refine hpk.mono ?_
  rintro e w3 ⟨y, rfl, hy, hw⟩
  subst hw
  have hyo := pick_ok HM.out.ok hy
  have hwf := HD.out.a1.wf
  obtain ⟨t, er, ha⟩ := get_ans hwf y
  obtain ⟨f1, f2, f3, f4, f5⟩ := ha.facts
  have hgt := getv_any w3 O ba 4000 L y t er hyo.2.1 hyo.2.2 HD.out.a1 ha
  have hcp := fun W (hb : Below w3.heap.size w3 W) => copy_any W O O2 ba 4000 bb 262144 L [] y t er hyo.2.1 hyo.2.2 (HD.out.a1.below hb) (HD.out.a2.below hb) (HT.out.below (below_then HBW.out hb)) HM.out.cells ha
  have HCE := Lib.hid (ha.cells hwf HM.out.cells)
  have HWF := Lib.hid hwf
  clear hpk hwf f1 f4 ha
  go_wp2_with fail
  refine hgt.mono ?_
  rintro e w4 ⟨⟨A4, c4, rfl, hrow⟩, hb4⟩
  have HR4 := Lib.hid (Reads.of_row hrow)
  have HG4 := Lib.hid (row_addr hrow)
  have hcp4 := hcp w4 hb4
  have HD4 := Lib.hid (HD.out.below hb4)
  have HB4 := Lib.hid (below_then HBW.out hb4)
  have HS4 := Lib.hid hb4.size
  have e1 : (er != er) = false := by simp
  clear hgt hrow hcp hb4
  by_cases he : er = 0
  · subst he
    obtain ⟨f2, _⟩ := f2 rfl
    have hto := tells_total HWF.out HM.out.cells f2
    have hpe : putE 262144 [] t = 0 := by
      rw [put_told HWF.out HM.out.cells f2 f5, if_neg]
      simp only [usedA, List.map_nil, List.sum_nil]
      omega
    have hpo := put_ok (room := 262144) (L := []) t WfA.nil (by omega) (by simp [usedA])
    obtain ⟨p1, p2, p3, p4⟩ := hpo.ok hpe
    have hce : copyE 262144 [] t 0 = 0 := by unfold copyE; rw [if_pos rfl, hpe]
    have hcx : copyX 262144 [] t 0 = putX 262144 [] t := by unfold copyX; rw [if_pos rfl]
    have hclL : copyL 262144 [] t 0 = putL 262144 [] t := by unfold copyL; rw [if_pos rfl]
    rw [hce, hcx, hclL] at hcp4
    obtain ⟨X, hX⟩ : ∃ X, putX 262144 [] t = X := ⟨_, rfl⟩
    obtain ⟨L2, hL2⟩ : ∃ L2, putL 262144 [] t = L2 := ⟨_, rfl⟩
    rw [hX, hL2] at hcp4 p1 p2
    have HAN := Lib.hid (told_ans p2 p4)
    have hxo := p1.2
    clear f2 f3 hto hpe hpo p1 p2 p3 p4 hce hcx hclL hX hL2
    go_wp2_with fail
    refine hcp4.mono ?_
    rintro e w5 ⟨rfl, hM5⟩
    obtain ⟨O5, hD5, hO5, hf5⟩ := HD4.out.made2 hM5
    have HR5 := Lib.hid (HR4.out.fr hf5 (fun g o e ho => by have := (HG4.out g o e).1; have := (HD.out.a2.lim g ho).2; omega))
    have HB5 := Lib.hid (HB4.out.trans (hf5.below HB4.out.size fun k hk => by have := HO2.out k hk; omega))
    have hs5 := hf5.size
    have hcl := clear_any w5 O ba 4000 L hD5.a1
    have HD5 := Lib.hid hD5
    have HO5 := Lib.hid hO5
    clear hcp4 hM5 hD5 hO5 hf5
    go_wp2_with fail
    refine hcl.mono ?_
    rintro e w6 ⟨⟨v6, rfl⟩, hM6⟩
    obtain ⟨O6, hD6, hO6, hf6⟩ := HD5.out.made1 hM6
    have hs6 := hf6.size
    have HR6 := Lib.hid (HR5.out.fr hf6 (fun g o e ho => by have := (HG4.out g o e).1; have := (HD.out.a1.lim g ho).2; omega))
    have HB6 := Lib.hid (HB5.out.trans (hf6.below HB5.out.size fun k hk => by have := HM.out.o1 k hk; omega))
    have hb7 := below_one w6 (.cells #[.int .i64 8, .int .i64 0, .string overT] 40)
    have hpt := put_any (w6.alloc (.cells #[.int .i64 8, .int .i64 0, .string overT] 40)) O6 ba 4000 [] [overC] (some ⟨w6.heap.size, 0, none⟩) 1 (hD6.a1.below hb7) (HT.out.below (below_then HB6.out hb7)) (over_reads (heap_new w6 _)) (fun _ g o e ho => by
      cases e
      have := (hD6.a1.lim _ ho).2
      omega) (fun j hj => by
      have e : j = 0 := by simpa using hj
      subst e
      show WfC overC
      exact ⟨by decide, by decide, by decide⟩) (by decide)
    have hpt2 : Calls Tryd.prog 13 #[.pointer (some ⟨ba, 0, none⟩), .slice (some ⟨w6.heap.size, 0, none⟩) 1 1] (w6.alloc (.cells #[.int .i64 8, .int .i64 0, .string overT] 40)) fun e w' => e = .returned (.tuple #[.int .u64 (putX 4000 [] [overC]), .int .i64 (putE 4000 [] [overC])]) ∧ Made (w6.alloc (.cells #[.int .i64 8, .int .i64 0, .string overT] 40)) w' O6 ba 4000 (putL 4000 [] [overC]) := hpt
    have HD7 := Lib.hid (hD6.below hb7)
    have HR7 := Lib.hid (HR6.out.below hb7)
    have HB7 := Lib.hid (below_then HB6.out hb7)
    have HO6 := Lib.hid hO6
    have hz7 : (w6.alloc (.cells #[.int .i64 8, .int .i64 0, .string overT] 40)).heap.size = w6.heap.size + 1 := World.size_alloc _ _
    have HZ7 := Lib.hid hz7
    clear hcl hM6 hD6 hO6 hf6 hb7 hpt hz7
    go_wp2_with fail
    refine hpt2.mono ?_
    rintro e w8 ⟨rfl, hM8⟩
    obtain ⟨O8, hD8, hO8, hf8⟩ := HD7.out.made1 hM8
    have HR8 := Lib.hid (HR7.out.fr hf8 (fun g o e ho => by
      have h1 := HG4.out g o e
      rcases HO6.out g ho with h' | h'
      · have := (HD.out.a1.lim g h').2; omega
      · omega))
    have HB8 := Lib.hid (HB7.out.trans (hf8.below HB7.out.size fun k hk => by
      rcases HO6.out k hk with h' | h'
      · exact HM.out.o1 k h'
      · have := HB5.out.size; omega))
    have hg9 := getv_any w8 O5 bb 262144 L2 X t 0 hxo.1 hxo.2 hD8.a2 HAN.out
    clear hpt2 hM8 hD8 hO8 hf8
    go_wp2_with fail
    refine hg9.mono ?_
    rintro e w9 ⟨⟨A9, c9, rfl, hrow9⟩, hb9⟩
    have hsm := rsame_any A9 A4 c9 c4 t t w9 (Reads.of_row hrow9) (HR8.out.below hb9) (by omega) (by omega)
    rw [show decide (t = t) = true by simp] at hsm
    have HB9 := Lib.hid (below_then HB8.out hb9)
    clear hg9 hrow9 hb9
    go_wp2_with fail
    refine hsm.mono ?_
    rintro e w10 ⟨rfl, hb10⟩
    have HB10 := Lib.hid (below_then HB9.out hb10)
    have hak := awake_any w10 (HT.out.below HB10.out)
    clear hsm hb10
    go_wp2_with fail
    refine hak.mono ?_
    rintro e w11 ⟨rfl, hb11⟩
    go_wp2
    go_ret
    exact ⟨rfl, below_then HB10.out hb11⟩
  · have hce : copyE 262144 [] t er = er := by unfold copyE; rw [if_neg he]
    have e2 : (er != 0) = true := by rw [bne_iff_ne]; exact he
    rw [hce] at hcp4
    obtain ⟨X, hX⟩ : ∃ X, copyX 262144 [] t er = X := ⟨_, rfl⟩
    rw [hX] at hcp4
    clear hce hX f2 f3 he
    go_wp2_with fail
    refine hcp4.mono ?_
    rintro e w5 ⟨rfl, hM5⟩
    obtain ⟨O5, hD5, hO5, hf5⟩ := HD4.out.made2 hM5
    have HB5 := Lib.hid (HB4.out.trans (hf5.below HB4.out.size fun k hk => by have := HO2.out k hk; omega))
    have hak := awake_any w5 (HT.out.below HB5.out)
    clear hcp4 hM5 hD5 hO5 hf5
    go_wp2_with fail
    refine hak.mono ?_
    rintro e w6 ⟨rfl, hb6⟩
    go_wp2
    go_ret
    exact ⟨rfl, below_then HB5.out hb6⟩
end Go.Proofs.YtemamhjcboelcaaDoor.Tm
