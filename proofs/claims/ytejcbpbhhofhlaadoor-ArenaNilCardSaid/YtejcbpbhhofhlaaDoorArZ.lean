/- ArenaNil: what there is not. -/
import Derived.Test.YtejcbpbhhofhlaaDoorArY
namespace Go.Proofs.YtejcbpbhhofhlaaDoor.Tm
open Go.RowKit
set_option linter.unusedVariables false
set_option linter.unusedSimpArgs false

theorem seen_nil (w : World) (x : Int) : Calls Tryd.prog 36 #[.pointer none, .int .u64 x] w fun e w' => e = .returned (.tuple #[.agg #[.int .i64 0, .int .i64 0, .string ⟨#[]⟩], .slice none 0 0, .int .i64 2]) ∧ Below w.heap.size w w' := by
  have hB := below_one w (.cells #[.int .i64 0, .int .i64 0, .string ⟨#[]⟩] 37)
  obtain ⟨d0, d1, d2, f0, f1, f2⟩ := loc3 (heap_new w (.cells #[.int .i64 0, .int .i64 0, .string ⟨#[]⟩] 37)) (Below.refl _ _)
  go_enter Tryd.func36, Tryd.ntmps36
  go_wp2
  refine bodyPost_ret (v := .tuple #[.agg #[.int .i64 0, .int .i64 0, .string ⟨#[]⟩], .slice none 0 0, .int .i64 2]) (by simp [results, Tryd.results36, go_sem, d0, d1, d2]) rfl ⟨rfl, ?_⟩
  exact hB
theorem put_nil (w : World) (A : Option Addr) (n c : Nat) : Calls Tryd.prog 9 #[.pointer none, .slice A n c] w fun e w' => e = .returned (.tuple #[.int .u64 0, .int .i64 2]) ∧ Below w.heap.size w w' := by
  go_enter Tryd.func9, Tryd.ntmps9
  go_wp2
  go_ret2
  exact ⟨rfl, Below.refl _ _⟩
theorem get_nil (w : World) (x : Int) : Calls Tryd.prog 12 #[.pointer none, .int .u64 x] w fun e w' => e = .returned (.tuple #[.slice none 0 0, .int .i64 2]) ∧ Below w.heap.size w w' := by
  go_enter Tryd.func12, Tryd.ntmps12
  go_wp2_with fail
  refine (seen_nil _ x).mono ?_
  rintro e w1 ⟨rfl, hB⟩
  go_wp2
  go_ret2
  exact ⟨rfl, below_alloc' hB _⟩
theorem leaf_nil (w : World) : Calls Tryd.prog 26 #[.pointer none, .agg #[.int .i64 0, .int .i64 0, .string ⟨#[]⟩]] w fun e w' => e = .returned (.tuple #[.int .u64 0, .int .i64 2]) ∧ Below w.heap.size w w' := by
  go_enter Tryd.func26, Tryd.ntmps26
  go_wp2
  go_ret2
  exact ⟨rfl, below_one w _⟩
theorem tuple_nil (w : World) : Calls Tryd.prog 19 #[.pointer none, .slice none 0 0] w fun e w' => e = .returned (.tuple #[.int .u64 0, .int .i64 2]) ∧ Below w.heap.size w w' := by
  go_enter Tryd.func19, Tryd.ntmps19
  go_wp2
  go_ret2
  exact ⟨rfl, Below.refl _ _⟩
theorem cons_nil (w : World) (x y : Int) : Calls Tryd.prog 27 #[.pointer none, .int .u64 x, .int .u64 y] w fun e w' => e = .returned (.tuple #[.int .u64 0, .int .i64 2]) ∧ Below w.heap.size w w' := by
  go_enter Tryd.func27, Tryd.ntmps27
  go_wp2
  go_ret2
  exact ⟨rfl, Below.refl _ _⟩
theorem cell_nil (w : World) (x : Int) : Calls Tryd.prog 28 #[.pointer none, .int .u64 x] w fun e w' => e = .returned (.tuple #[.agg #[.int .i64 0, .int .i64 0, .string ⟨#[]⟩], .int .i64 2]) ∧ Below w.heap.size w w' := by
  have hB0 := below_one w (.cells #[.int .i64 0, .int .i64 0, .string ⟨#[]⟩] 37)
  go_enter Tryd.func28, Tryd.ntmps28
  go_wp2_with fail
  refine (seen_nil _ x).mono ?_
  rintro e w1 ⟨rfl, hB⟩
  obtain ⟨d0, d1, d2, f0, f1, f2⟩ := loc3 (heap_new w (.cells #[.int .i64 0, .int .i64 0, .string ⟨#[]⟩] 37)) (below_alloc' hB (.cells #[.int .i64 0, .int .i64 0, .string ⟨#[]⟩] 37))
  have hB2 := below_alloc' (below_then hB0 hB) (.cells #[.int .i64 0, .int .i64 0, .string ⟨#[]⟩] 37)
  go_wp2
  refine bodyPost_ret (v := .tuple #[.agg #[.int .i64 0, .int .i64 0, .string ⟨#[]⟩], .int .i64 2]) (by simp [results, Tryd.results28, go_sem, d0, d1, d2]) rfl ⟨rfl, ?_⟩
  exact ((hB2.setCell (p := ⟨w.heap.size, 0, none⟩) (Nat.le_refl _) (.int .i64 0)).setCell (p := ⟨w.heap.size, 1, none⟩) (Nat.le_refl _) (.int .i64 0)).setCell (p := ⟨w.heap.size, 2, none⟩) (Nat.le_refl _) (.string ⟨#[]⟩)
theorem part_nil (w : World) (x i : Int) : Calls Tryd.prog 29 #[.pointer none, .int .u64 x, .int .i64 i] w fun e w' => e = .returned (.tuple #[.int .u64 0, .int .i64 2]) ∧ Below w.heap.size w w' := by
  go_enter Tryd.func29, Tryd.ntmps29
  go_wp2_with fail
  refine (seen_nil _ x).mono ?_
  rintro e w1 ⟨rfl, hB⟩
  go_wp2
  go_ret2
  exact ⟨rfl, below_alloc' hB _⟩
theorem acost_nil (w : World) (x : Int) : Calls Tryd.prog 15 #[.pointer none, .int .u64 x] w fun e w' => e = .returned (.tuple #[.int .i64 0, .int .i64 2]) ∧ Below w.heap.size w w' := by
  go_enter Tryd.func15, Tryd.ntmps15
  go_wp2_with fail
  refine (seen_nil _ x).mono ?_
  rintro e w1 ⟨rfl, hB⟩
  go_wp2
  go_ret2
  exact ⟨rfl, below_alloc' hB _⟩
theorem size_nil (w : World) (x : Int) : Calls Tryd.prog 20 #[.pointer none, .int .u64 x] w fun e w' => e = .returned (.tuple #[.int .i64 0, .int .i64 2]) ∧ Below w.heap.size w w' := by
  go_enter Tryd.func20, Tryd.ntmps20
  go_wp2_with fail
  refine (seen_nil _ x).mono ?_
  rintro e w1 ⟨rfl, hB⟩
  go_wp2
  go_ret2
  exact ⟨rfl, below_alloc' hB _⟩
theorem used_nil (w : World) : Calls Tryd.prog 16 #[.pointer none] w fun e w' => e = .returned (.int .i64 0) ∧ Below w.heap.size w w' := by
  go_enter Tryd.func16, Tryd.ntmps16
  go_wp2
  go_ret
  exact ⟨rfl, Below.refl _ _⟩
theorem room_nil (w : World) : Calls Tryd.prog 23 #[.pointer none] w fun e w' => e = .returned (.int .i64 0) ∧ Below w.heap.size w w' := by
  go_enter Tryd.func23, Tryd.ntmps23
  go_wp2
  go_ret
  exact ⟨rfl, Below.refl _ _⟩
theorem clear_nil (w : World) : Calls Tryd.prog 25 #[.pointer none] w fun e w' => (∃ v, e = .returned v) ∧ Below w.heap.size w w' := by
  go_enter Tryd.func25, Tryd.ntmps25
  go_wp2
  go_end0
  exact ⟨⟨_, rfl⟩, Below.refl _ _⟩
theorem tabs_size3 {w : World} (h : TabsA w) : 3 ≤ w.heap.size := by
  have h2 := cell_lt (h.utf.2 0 (by omega)).1
  simp at h2
  omega
set_option maxRecDepth 10000 in
set_option maxHeartbeats 4000000 in
theorem nil_any (w : World) (A : Option Addr) (n cap : Nat) (x i : Int) (hT : TabsA w) :
    Calls Tryd.prog 7 #[.slice A n cap, .int .u64 x, .int .i64 i] w fun e w' => e = .returned (.bool true) ∧ Below w.heap.size w w' := by
  have h3 := tabs_size3 hT
  have HT := Lib.hid hT
  clear hT
  go_enter Tryd.func7, Tryd.ntmps7
  go_wp2_with fail
  refine (put_nil w A n cap).mono ?_
  rintro e w1 ⟨rfl, hB⟩
  go_wp2_with fail
  refine (get_nil w1 x).mono ?_
  rintro e w2 ⟨rfl, hb⟩
  have hB := below_then hB hb
  go_wp2_with fail
  refine (leaf_nil w2).mono ?_
  rintro e w3 ⟨rfl, hb⟩
  have hB := below_then hB hb
  go_wp2_with fail
  refine (tuple_nil w3).mono ?_
  rintro e w4 ⟨rfl, hb⟩
  have hB := below_then hB hb
  go_wp2_with fail
  refine (cons_nil w4 x x).mono ?_
  rintro e w5 ⟨rfl, hb⟩
  have hB := below_then hB hb
  go_wp2_with fail
  refine (cell_nil w5 x).mono ?_
  rintro e w6 ⟨rfl, hb⟩
  have hB := below_alloc' (below_then hB hb) (.cells #[.int .i64 0, .int .i64 0, .string ⟨#[]⟩] 37)
  go_wp2_with fail
  refine (part_nil _ x i).mono ?_
  rintro e w7 ⟨rfl, hb⟩
  have hB := below_then hB hb
  go_wp2_with fail
  refine (acost_nil w7 x).mono ?_
  rintro e w8 ⟨rfl, hb⟩
  have hB := below_then hB hb
  go_wp2_with fail
  refine (size_nil w8 x).mono ?_
  rintro e w9 ⟨rfl, hb⟩
  have hB := below_then hB hb
  go_wp2_with fail
  refine (clear_nil w9).mono ?_
  rintro e w10 ⟨⟨v, rfl⟩, hb⟩
  have hB := below_then hB hb
  go_wp2_with fail
  refine (used_nil w10).mono ?_
  rintro e w11 ⟨rfl, hb⟩
  have hB := below_then hB hb
  go_wp2_with fail
  refine (room_nil w11).mono ?_
  rintro e w12 ⟨rfl, hb⟩
  have hB := below_then hB hb
  go_wp2_with fail
  refine (all_nil w12).mono ?_
  rintro e w13 ⟨AL, cL, rfl, hb⟩
  have hB := below_then hB hb
  go_wp2_with fail
  refine (known_any w13 (HT.out.below hB) (Nat.le_trans h3 hB.size)).mono ?_
  rintro e w14 ⟨rfl, hb⟩
  have hB := below_then hB hb
  go_wp2
  go_ret
  exact ⟨rfl, hB⟩
theorem nil_row (A : Option Addr) (cap : Nat) (t : List CellD) (x i : Int) (w : World) (hT : TabsA w) (hcap : t.length ≤ cap) (hr : Reads w A t) (hs : ∀ j (h : j < t.length), WfC t[j]) (hy : t.length * 32 ≤ 140737488351232) (hx : (Lit.int .u64 x).wf = true) (hi : (Lit.int .i64 i).wf = true) :
    Calls Tryd.prog 7 #[.slice A t.length cap, .int .u64 x, .int .i64 i] w fun e w' => e = .returned (.bool true) ∧ Below w.heap.size w w' :=
  nil_any w A t.length cap x i hT
end Go.Proofs.YtejcbpbhhofhlaaDoor.Tm
