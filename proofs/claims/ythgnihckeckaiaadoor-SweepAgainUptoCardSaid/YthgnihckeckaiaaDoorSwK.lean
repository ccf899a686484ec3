/- Sweep's law: known; told of nil. -/
import Derived.Test.YthgnihckeckaiaaDoorSwF
import Derived.Deep.RegionHeld3
import Derived.BigQuiet
namespace Go.Proofs.YthgnihckeckaiaaDoor.Tm
open Go.RowKit Go.Shelf
set_option linter.unusedVariables false
set_option linter.unusedSimpArgs false

theorem used_same (w : World) (O : Nat → Prop) (ba room : Nat) (l : List ObjA) (h : ArAt w O ba room l) :
    Calls Tryd.prog 20 #[.pointer (some ⟨ba, 0, none⟩)] w fun e w' => e = .returned (.int .i64 (usedA l : Int)) ∧ w = w' := by
  obtain ⟨bm, vO, vW, vs, hR⟩ := h
  obtain ⟨c0, c1, c2, c3, c4⟩ := hR.cells
  clear hR
  go_enter Tryd.func20, Tryd.ntmps20
  go_wp2
  go_ret
  exact ⟨rfl, rfl⟩
def skC : CellD := ⟨2, 0, okT⟩
def skU : CellD := ⟨5, 1, ⟨#[]⟩⟩
def skI : CellD := ⟨1, 1, ⟨#[]⟩⟩
theorem skC_good : cellE skC = 0 := by simp [skC, cellE, utf8B, ok_ok, show okT.size = 2 from rfl]
theorem skC_wf : WfC skC := ⟨by decide, by decide, by decide⟩
theorem skU_wf : WfC skU := ⟨by decide, by decide, by decide⟩
theorem skI_wf : WfC skI := ⟨by decide, by decide, by decide⟩
def skL1 : List ObjA := [⟨skC, [], 1⟩]
def skL2 : List ObjA := [⟨skC, [], 1⟩, ⟨skU, [17], 2⟩]
theorem sk_put1 : putE 100 [] [skC] = 0 ∧ putL 100 [] [skC] = skL1 ∧ putX 100 [] [skC] = 4 := by
  have hr : (rightE [skC]).1 = 0 := by
    have e := skC_good
    rw [rightE, if_neg (by simp), if_neg (by simp)]
    simp [rightL, e, kidsD, skC] at e ⊢
  have e0 : putE 100 [] [skC] = 0 := by
    unfold putE
    rw [if_neg (by rw [hr]; simp), if_neg (by decide)]
  refine ⟨e0, ?_, ?_⟩
  · unfold putL
    rw [if_pos e0]
    rfl
  · unfold putX
    rw [if_pos e0]
    rfl
theorem sk_put2 : putE 100 skL1 [skU, skI] = 0 ∧ putL 100 skL1 [skU, skI] = skL2 := by
  have e1 : cellE skU = 0 := by simp [skU, cellE, ByteArray.size]
  have e2 : cellE skI = 0 := by simp [skI, cellE, ByteArray.size]
  have hr : (rightE [skU, skI]).1 = 0 := by
    rw [rightE, if_neg (by simp), if_neg (by simp)]
    simp [rightL, e1, e2]
    simp [kidsD, skU, skI]
  have e0 : putE 100 skL1 [skU, skI] = 0 := by
    unfold putE
    rw [if_neg (by rw [hr]; simp), if_neg (by decide +kernel)]
  refine ⟨e0, ?_⟩
  unfold putL
  rw [if_pos e0]
  rfl
theorem sk_rch : rchW skL2 [4, 4] = [4] ∧ allFind skL2 [4, 4] = true ∧ costsW skL2 [4] = 2 := by
  refine ⟨by decide +kernel, by decide +kernel, by decide +kernel⟩
theorem sk_col : usedA (colF skL2 [4] (wordsA 0 skL2)).1 = 2 ∧ [4, 4].map (wherM (colF skL2 [4] (wordsA 0 skL2)).2) = [4, 4] := by
  refine ⟨by decide +kernel, by decide +kernel⟩
theorem sk_cells : ∀ o ∈ skL2, WfC o.cell := by
  intro o ho
  simp only [skL2, List.mem_cons, List.not_mem_nil, or_false] at ho
  rcases ho with rfl | rfl
  · exact skC_wf
  · exact skU_wf
theorem sk_reads1 {w : World} {g : Nat} {t : TypeId} (h : w.heap[g]? = some (.cells #[.int .i64 2, .int .i64 0, .string okT] t (0, 0))) : Reads w (some ⟨g, 0, none⟩) [skC] := by
  intro j hj
  have e : j = 0 := by simpa using hj
  subst e
  exact ⟨g, 0, rfl, by simp [World.cell?, h, skC], by simp [World.cell?, h, skC], by simp [World.cell?, h, skC]⟩
theorem sk_reads2 {w : World} {g : Nat} {t : TypeId} (h : w.heap[g]? = some (.cells #[.int .i64 5, .int .i64 1, .string ⟨#[]⟩, .int .i64 1, .int .i64 1, .string ⟨#[]⟩] t (0, 0))) : Reads w (some ⟨g, 0, none⟩) [skU, skI] := by
  intro j hj
  have : j < 2 := hj
  match j, this with
  | 0, _ => exact ⟨g, 0, rfl, by simp [World.cell?, h, skU], by simp [World.cell?, h, skU], by simp [World.cell?, h, skU]⟩
  | 1, _ => exact ⟨g, 0, rfl, by simp [World.cell?, h, skI], by simp [World.cell?, h, skI], by simp [World.cell?, h, skI]⟩
set_option maxRecDepth 100000 in
set_option maxHeartbeats 4000000 in
theorem sknown_any (w : World) (hT : TabsA w) : Calls Tryd.prog 46 #[] w fun e w' => e = .returned (.bool true) ∧ Below w.heap.size w w' := by
  have h3 := tabs_size hT
  have hnew := new_any 100 w (by decide) h3
  have HT := Lib.hid hT
  clear hT
  go_enter Tryd.func46, Tryd.ntmps46
  go_wp2_with fail
  refine hnew.mono ?_
  rintro e w1 ⟨ba, O, rfl, hA1, hO1, hB1⟩
  have hB2 := below_alloc' hB1 (.cells #[.int .i64 2, .int .i64 0, .string okT] 40)
  have hb2 := below_one w1 (.cells #[.int .i64 2, .int .i64 0, .string okT] 40)
  have hput : Calls Tryd.prog 18 #[.pointer (some ⟨ba, 0, none⟩), .slice (some ⟨w1.heap.size, 0, none⟩) 1 1] _ _ := put_any (w1.alloc (.cells #[.int .i64 2, .int .i64 0, .string okT] 40)) O ba 100 [] [skC] (some ⟨w1.heap.size, 0, none⟩) 1 (hA1.below hb2) (HT.out.below hB2) (sk_reads1 (heap_new w1 _)) (fun _ g o e ho => by
    cases e
    have := (hA1.lim _ ho).2
    omega) (fun j hj => by
    have e : j = 0 := by simpa using hj
    subst e
    exact skC_wf) (by decide)
  rw [sk_put1.1, sk_put1.2.1, sk_put1.2.2] at hput
  have HB2 := Lib.hid hB2
  clear hnew hA1 hB1 hb2 hB2
  go_wp2_with fail
  refine hput.mono ?_
  rintro e w2 ⟨rfl, hM⟩
  obtain ⟨O2, hA2, hO2, hB3⟩ := Made.trans_below HB2.out hO1 hM
  have hB4 := below_alloc' hB3 (.cells #[.int .i64 5, .int .i64 1, .string ⟨#[]⟩, .int .i64 1, .int .i64 1, .string ⟨#[]⟩] 40)
  have hb4 := below_one w2 (.cells #[.int .i64 5, .int .i64 1, .string ⟨#[]⟩, .int .i64 1, .int .i64 1, .string ⟨#[]⟩] 40)
  have hput2 : Calls Tryd.prog 18 #[.pointer (some ⟨ba, 0, none⟩), .slice (some ⟨w2.heap.size, 0, none⟩) 2 2] _ _ := put_any (w2.alloc (.cells #[.int .i64 5, .int .i64 1, .string ⟨#[]⟩, .int .i64 1, .int .i64 1, .string ⟨#[]⟩] 40)) O2 ba 100 skL1 [skU, skI] (some ⟨w2.heap.size, 0, none⟩) 2 (hA2.below hb4) (HT.out.below hB4) (sk_reads2 (heap_new w2 _)) (fun _ g o e ho => by
    cases e
    have := (hA2.lim _ ho).2
    omega) (fun j hj => by
    have : j < 2 := hj
    match j, this with
    | 0, _ => exact skU_wf
    | 1, _ => exact skI_wf) (by decide)
  rw [sk_put2.1, sk_put2.2] at hput2
  obtain ⟨px, hpx⟩ : ∃ p, putX 100 skL1 [skU, skI] = p := ⟨_, rfl⟩
  rw [hpx] at hput2
  have HB4 := Lib.hid hB4
  clear hput hM hA2 hB3 hb4 hB4 hpx
  go_wp2_with fail
  refine hput2.mono ?_
  rintro e w3 ⟨rfl, hM3⟩
  obtain ⟨O3, hA3, hO3, hB5⟩ := Made.trans_below HB4.out hO2 hM3
  have hb5 := below_one w3 (.cells #[.int .u64 4, .int .u64 4] 27)
  have hB6 := below_then hB5 hb5
  have hcol : Calls Tryd.prog 49 #[.pointer (some ⟨ba, 0, none⟩), .slice (some ⟨w3.heap.size, 0, none⟩) 2 2, .int .i64 50] _ _ := collect_any (w3.alloc (.cells #[.int .u64 4, .int .u64 4] 27)) O3 ba 100 skL2 [4, 4] (some ⟨w3.heap.size, 0, none⟩) 2 50 (hA3.below hb5) (HT.out.below hB6) sk_cells (two_words2 (heap_new w3 _)) (fun p hp => by simp at hp; subst hp; omega) (by decide) sk_rch.2.1 (by decide) (by rw [sk_rch.1, sk_rch.2.2]; decide)
  have HB6 := Lib.hid hB6
  clear hput2 hM3 hA3 hB5 hb5 hB6
  go_wp2_with fail
  refine hcol.mono ?_
  rintro e w4 ⟨tb, O4, A4, c4, rfl, hC⟩
  have hus := used_any w4 O4 tb 50 _ hC.ar
  have hrow := hC.row
  rw [sk_rch.1, sk_col.2] at hrow
  rw [sk_rch.1, sk_col.1] at hus
  have hWR := WReads.of_row hrow
  obtain ⟨g, o, hA4, q0⟩ := hWR 0 (by decide)
  obtain ⟨g', o', hA4', q1⟩ := hWR 1 (by decide)
  subst hA4
  cases hA4'
  have q0 : w4.cell? ⟨g, o, none⟩ = some (.int .u64 4) := q0
  have q1 : w4.cell? ⟨g, o + 1, none⟩ = some (.int .u64 4) := q1
  have HB7 := Lib.hid (below_then HB6.out hC.base)
  have HUS := Lib.hid (fun V (hb : Below w4.heap.size w4 V) => used_any V O4 tb 50 _ (hC.ar.below hb))
  rw [sk_rch.1, sk_col.1] at HUS
  have HUS : Hid (∀ V, Below w4.heap.size w4 V → Calls Tryd.prog 20 #[.pointer (some ⟨tb, 0, none⟩)] V fun e w' => e = .returned (.int .i64 2) ∧ Below V.heap.size V w') := HUS
  clear hcol hus hrow hWR hC
  have hg4 : ∀ y : Int, (y == y) = true := fun y => by simp
  go_wp2_with fail
  go_region_held3 (fun W' => W'.cell? ⟨g, o, none⟩ = some (.int .u64 4) ∧ W'.cell? ⟨g, o + 1, none⟩ = some (.int .u64 4) ∧ Below w4.heap.size w4 W')
    (first
      | exact ⟨q0, q1, (Below.refl _ _).drew⟩
      | exact (fun hB' => ⟨cell_below hB' q0, cell_below hB' q1, hB'⟩) (below_then (by assumption) hbc)
      | exact (fun hB' => ⟨cell_below hB' q0, cell_below hB' q1, hB'⟩) (below_then (Below.drew (by assumption)) hbc)
      | go_keep)
    (first
      | (go_at_call 20; go_split_ands; refine (HUS.out _ (by assumption)).mono ?_; rintro e wc ⟨rfl, hbc⟩))
  have hbe : Below w4.heap.size w4 wc := below_then (by assumption) hbc
  go_wp2
  go_ret
  exact ⟨rfl, below_then HB7.out hbe⟩
theorem run_equalIn_nil_nil {P : Program} (w : World) (d : Nat) {t : TypeId} {x y : Array TypeId} {z : Bool} (h : P.underlying t = some (.func x y z)) :
    (Op.equalIn (d + 1) t .nilFunc .nilFunc).run P w = .ok true w := by
  simp [Op.equalIn, run_underlying h]
theorem run_eql_nil_nil {P : Program} (w : World) {t : TypeId} {x y : Array TypeId} {z : Bool} (h : P.underlying t = some (.func x y z)) :
    (binOp .eql t .nilFunc .nilFunc).run P w = .ok (.bool true) w := by
  simp only [binOp]
  simp [Op.equal, Op.maxDepth, run_equalIn_nil_nil w 9999 h]
theorem stold_nil (w : World) (A : Option Addr) (n cap : Nat) (most : Int) : Calls Tryd.prog 53 #[.pointer none, .slice A n cap, .int .i64 most] w fun e w' => e = .returned (.tuple #[.slice none 0 0, .int .i64 2]) ∧ Below w.heap.size w w' := by
  have hB0 := below_one w (.cells #[.int .i64 most] 3)
  have HB0 := Lib.hid hB0
  have heq := fun (W : World) => run_eql_nil_nil (P := Tryd.prog) W Tryd.underlying110
  clear hB0
  go_enter Tryd.func53, Tryd.ntmps53
  go_wp2_with fail
  refine (sreach_nil _ A n cap).mono ?_
  rintro e w1 ⟨rfl, hb1⟩
  go_wp2
  go_ret2
  exact ⟨rfl, below_alloc' (below_then HB0.out hb1) _⟩
end Go.Proofs.YthgnihckeckaiaaDoor.Tm
