/- Layer 4's awake. -/
import Derived.Test.YthgnihckeckaiaaDoorDpC
import Derived.Test.YthgnihckeckaiaaDoorDpD
namespace Go.Proofs.YthgnihckeckaiaaDoor.Tm
open Go.RowKit
set_option linter.unusedVariables false
set_option linter.unusedSimpArgs false

def okC : CellD := ⟨2, 0, okT⟩
theorem okC_good : cellE okC = 0 := by simp [okC, cellE, utf8B, ok_ok, show okT.size = 2 from rfl]
theorem okC_wf : WfC okC := ⟨by decide, by decide, by decide⟩
def okL : List ObjA := [⟨okC, [], 1⟩]
def okL2 : List ObjA := [⟨okC, [], 1⟩, ⟨tupA 2, [4, 4], 3⟩]
theorem awk_put : putE 10 [] [okC] = 0 ∧ putL 10 [] [okC] = okL ∧ putX 10 [] [okC] = 4 := by
  have hr : (rightE [okC]).1 = 0 := by
    have e := okC_good
    rw [rightE, if_neg (by simp), if_neg (by simp)]
    simp [rightL, e, kidsD, okC] at e ⊢
  have e0 : putE 10 [] [okC] = 0 := by
    unfold putE
    rw [if_neg (by rw [hr]; simp), if_neg (by decide)]
  refine ⟨e0, ?_, ?_⟩
  · unfold putL
    rw [if_pos e0]
    rfl
  · unfold putX
    rw [if_pos e0]
    rfl
theorem awk_hold : holdE 10 okL (tupA 2) [4, 4] = 0 ∧ holdL 10 okL (tupA 2) [4, 4] = okL2 ∧ holdX 10 okL (tupA 2) [4, 4] = 36 := by
  have e0 : holdE 10 okL (tupA 2) [4, 4] = 0 := by decide +kernel
  refine ⟨e0, ?_, ?_⟩
  · unfold holdL
    rw [if_pos e0]
    rfl
  · unfold holdX
    rw [if_pos e0]
    rfl
def awkT : List CellD := [tupA 2, okC, okC]
theorem awk_tells : Tells okL2 [36] awkT := by
  refine .cons (c := tupA 2) (ps := [4, 4]) rfl ?_
  refine .cons (c := okC) (ps := []) rfl ?_
  exact .cons (c := okC) (ps := []) rfl .nil
theorem awk_get : GetAns okL2 36 awkT 0 := .inr ⟨awkT, awk_tells, rfl, rfl⟩
theorem awk_total : totalA awkT = 7 := by decide
theorem awk_vis : visW okL2 [] 36 = [4, 36] := by decide +kernel
theorem awk_reach : reachN okL2 [36] = 5 ∧ reachE okL2 [36] = 0 := by
  constructor
  · decide +kernel
  · decide +kernel
theorem awk_depth : depthOf okL2 36 = 2 ∧ (findA okL2 36).isSome = true := by
  constructor
  · decide +kernel
  · decide +kernel
theorem awk_cells : ∀ o ∈ okL2, WfC o.cell := by
  intro o ho
  simp only [okL2, List.mem_cons, List.not_mem_nil, or_false] at ho
  rcases ho with rfl | rfl
  · exact okC_wf
  · exact ⟨by decide, by decide, by decide⟩
theorem okC_reads {w : World} {g : Nat} {t : TypeId} (h : w.heap[g]? = some (.cells #[.int .i64 2, .int .i64 0, .string okT] t (0, 0))) : Reads w (some ⟨g, 0, none⟩) [okC] := by
  intro j hj
  have e : j = 0 := by simpa using hj
  subst e
  exact ⟨g, 0, rfl, by simp [World.cell?, h, okC], by simp [World.cell?, h, okC], by simp [World.cell?, h, okC]⟩
set_option maxRecDepth 10000 in
set_option maxHeartbeats 4000000 in
theorem awake_any (w : World) (hT : TabsA w) : Calls Tryd.prog 32 #[] w fun e w' => e = .returned (.bool true) ∧ Below w.heap.size w w' := by
  have h3 := tabs_size hT
  have hnew := new_any 10 w (by decide) h3
  have HT := Lib.hid hT
  clear hT
  go_enter Tryd.func32, Tryd.ntmps32
  go_wp2_with fail
  refine hnew.mono ?_
  rintro e w1 ⟨ba, O, rfl, hA1, hO1, hB1⟩
  have hB2 := below_alloc' hB1 (.cells #[.int .i64 2, .int .i64 0, .string okT] 40)
  have hb2 := below_one w1 (.cells #[.int .i64 2, .int .i64 0, .string okT] 40)
  have hput : Calls Tryd.prog 18 #[.pointer (some ⟨ba, 0, none⟩), .slice (some ⟨w1.heap.size, 0, none⟩) 1 1] _ _ := put_any (w1.alloc (.cells #[.int .i64 2, .int .i64 0, .string okT] 40)) O ba 10 [] [okC] (some ⟨w1.heap.size, 0, none⟩) 1 (hA1.below hb2) (HT.out.below hB2) (okC_reads (heap_new w1 _)) (fun _ g o e ho => by
    cases e
    have := (hA1.lim _ ho).2
    omega) (fun j hj => by
    have e : j = 0 := by simpa using hj
    subst e
    exact okC_wf) (by decide)
  rw [awk_put.1, awk_put.2.1, awk_put.2.2] at hput
  have HB2 := Lib.hid hB2
  clear hnew hA1 hB1 hb2 hB2
  go_wp2_with fail
  refine hput.mono ?_
  rintro e w2 ⟨rfl, hM⟩
  obtain ⟨O2, hA2, hO2, hB3⟩ := Made.trans_below HB2.out hO1 hM
  have hb3 := below_one w2 (.cells #[.int .u64 4, .int .u64 4] 27)
  have hB4 := below_then hB3 hb3
  have htp : Calls Tryd.prog 47 #[.pointer (some ⟨ba, 0, none⟩), .slice (some ⟨w2.heap.size, 0, none⟩) 2 2] _ _ := tuple_any (w2.alloc (.cells #[.int .u64 4, .int .u64 4] 27)) O2 ba 10 okL [4, 4] (some ⟨w2.heap.size, 0, none⟩) 2 (hA2.below hb3) (HT.out.below hB4) (two_words2 (heap_new w2 _)) (by decide) (fun p hp => by simp at hp; subst hp; omega)
  have htp2 : Calls Tryd.prog 47 #[.pointer (some ⟨ba, 0, none⟩), .slice (some ⟨w2.heap.size, 0, none⟩) 2 2] (w2.alloc (.cells #[.int .u64 4, .int .u64 4] 27)) fun e w' => e = .returned (.tuple #[.int .u64 (holdX 10 okL (tupA 2) [4, 4]), .int .i64 (holdE 10 okL (tupA 2) [4, 4])]) ∧ Made (w2.alloc (.cells #[.int .u64 4, .int .u64 4] 27)) w' O2 ba 10 (holdL 10 okL (tupA 2) [4, 4]) := htp
  rw [awk_hold.1, awk_hold.2.1, awk_hold.2.2] at htp2
  have HB4 := Lib.hid hB4
  clear htp hput hM hA2 hB3 hb3 hB4
  go_wp2_with fail
  refine htp2.mono ?_
  rintro e w3 ⟨rfl, hM3⟩
  obtain ⟨O3, hA3, hO3, hB5⟩ := Made.trans_below HB4.out hO2 hM3
  have hdc := dcells_any w3 O3 ba 10 okL2 36 awkT 0 (by decide) (by decide) hA3 awk_cells awk_get
  rw [awk_total] at hdc
  have HA3 := Lib.hid hA3
  clear htp2 hM3 hA3
  go_wp2_with fail
  refine hdc.mono ?_
  rintro e w4 ⟨rfl, hb4⟩
  have hb5 := below_alloc' hb4 (.cells #[.int .u64 36] 27)
  have hB6 := below_then hB5 hb5
  have hrc : Calls Tryd.prog 37 #[.pointer (some ⟨ba, 0, none⟩), .slice (some ⟨w4.heap.size, 0, none⟩) 1 1] _ _ := reach_any (w4.alloc (.cells #[.int .u64 36] 27)) O3 ba 10 okL2 [36] (some ⟨w4.heap.size, 0, none⟩) 1 (HA3.out.below hb5) (HT.out.below hB6) awk_cells
    (fun j hj => by
      have e : j = 0 := by simpa using hj
      subst e
      exact ⟨w4.heap.size, 0, rfl, BlkIs.cell (show BlkIs (w4.alloc (.cells #[.int .u64 36] 27)) w4.heap.size #[.int .u64 36] 27 from heap_alloc_new w4 _) 0 rfl⟩)
    (fun y hy => by rw [List.mem_singleton.1 hy]; omega) (fun b o e => by cases e; rw [World.size_alloc]; omega) (by decide)
  rw [awk_reach.1, awk_reach.2] at hrc
  have HB6 := Lib.hid hB6
  have HA5 := Lib.hid (HA3.out.below hb5)
  clear hdc hb4 hb5 hB5 hB6
  go_wp2_with fail
  refine hrc.mono ?_
  rintro e w5 ⟨rfl, hb6⟩
  have hdp := depth_any w5 O3 ba 10 okL2 36 (HA5.out.below hb6) (by decide) (by decide) awk_depth.2
  rw [awk_depth.1] at hdp
  have hB7 := below_then HB6.out hb6
  clear hrc hb6
  go_wp2_with fail
  refine hdp.mono ?_
  rintro e w6 ⟨rfl, hb7⟩
  have hB8 := below_then hB7 hb7
  clear hdp hb7
  go_wp2
  go_ret
  exact ⟨rfl, hB8⟩
end Go.Proofs.YthgnihckeckaiaaDoor.Tm
