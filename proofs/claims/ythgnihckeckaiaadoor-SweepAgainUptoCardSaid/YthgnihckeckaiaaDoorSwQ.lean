/- arena.Leaf; arena.New of no room. -/
import Derived.Test.YthgnihckeckaiaaDoorDpI
import Derived.Test.YthgnihckeckaiaaDoorMidA
namespace Go.Proofs.YthgnihckeckaiaaDoor.Tm
open Go.RowKit
set_option linter.unusedVariables false
set_option linter.unusedSimpArgs false

def leafE (room : Nat) (l : List ObjA) (c : CellD) : Int := if c.kind = 7 ∨ (c.kind = 5 ∧ 0 < c.n) then 32 else if cellE c ≠ 0 then cellE c else if (room : Int) - (usedA l : Int) < (costC c : Int) then 30 else 0
def leafL (room : Nat) (l : List ObjA) (c : CellD) : List ObjA := if leafE room l c = 0 then (makeA l c []).1 else l
def leafX (room : Nat) (l : List ObjA) (c : CellD) : Int := if leafE room l c = 0 then (makeA l c []).2 else 0
theorem leaf_kids {c : CellD} (h : ¬ (c.kind = 7 ∨ (c.kind = 5 ∧ 0 < c.n))) : kidsD c = 0 := by
  unfold kidsD
  rw [if_neg (fun e => h (.inl e))]
  split
  · rename_i h5
    have : ¬ 0 < c.n := fun e => h (.inr ⟨h5.1, e⟩)
    omega
  · rfl
set_option maxHeartbeats 4000000 in
theorem leaf_any (w : World) (O : Nat → Prop) (ba room : Nat) (l : List ObjA) (c : CellD) (h : ArAt w O ba room l) (hT : TabsA w) (hc : WfC c) :
    Calls Tryd.prog 68 #[.pointer (some ⟨ba, 0, none⟩), .agg #[.int .i64 c.kind, .int .i64 c.n, .string c.text]] w fun e w' => e = .returned (.tuple #[.int .u64 (leafX room l c), .int .i64 (leafE room l c)]) ∧ Made w w' O ba room (leafL room l c) := by
  have hlims := h.lims
  have hB0 := below_one w (.cells #[.int .i64 c.kind, .int .i64 c.n, .string c.text] 40)
  obtain ⟨d0, d1, d2, _, _, _⟩ := loc3 (heap_new w (.cells #[.int .i64 c.kind, .int .i64 c.n, .string c.text] 40)) (Below.refl _ _)
  have HA := Lib.hid h
  have HT := Lib.hid hT
  have HC := Lib.hid hc
  have HB0 := Lib.hid hB0
  have hwc := wcell_any c (w.alloc (.cells #[.int .i64 c.kind, .int .i64 c.n, .string c.text] 40)) hc.text (hT.below hB0).utf
  have hcz := fun W (he : cellE c = 0) (hB : Below w.heap.size w W) => cost_any c W (hT.below hB) hc he
  clear h hT hc hB0
  by_cases h7 : c.kind = 7
  · have e7 : (c.kind == 7) = true := by rw [h7]; rfl
    have E := Lib.hid (show leafE room l c = 32 by unfold leafE; rw [if_pos (.inl h7)])
    have E1 := Lib.hid (show leafL room l c = l by unfold leafL; rw [E.out, if_neg (by omega)])
    have E2 := Lib.hid (show leafX room l c = 0 by unfold leafX; rw [E.out, if_neg (by omega)])
    clear h7
    go_enter Tryd.func68, Tryd.ntmps68
    go_wp2
    go_ret2
    rw [E.out, E1.out, E2.out]
    exact ⟨rfl, Made.of_below HA.out HB0.out⟩
  have e7 : (c.kind == 7) = false := beq_eq_false_iff_ne.2 h7
  by_cases h5 : c.kind = 5 ∧ 0 < c.n
  · have e5 : (c.kind == 5) = true := by rw [h5.1]; rfl
    have en : decide (0 < c.n) = true := decide_eq_true h5.2
    have hn := h5.2
    have E := Lib.hid (show leafE room l c = 32 by unfold leafE; rw [if_pos (.inr h5)])
    have E1 := Lib.hid (show leafL room l c = l by unfold leafL; rw [E.out, if_neg (by omega)])
    have E2 := Lib.hid (show leafX room l c = 0 by unfold leafX; rw [E.out, if_neg (by omega)])
    clear h7 h5
    go_enter Tryd.func68, Tryd.ntmps68
    go_wp2
    go_ret2
    rw [E.out, E1.out, E2.out]
    exact ⟨rfl, Made.of_below HA.out HB0.out⟩
  have hnk : ¬ (c.kind = 7 ∨ (c.kind = 5 ∧ 0 < c.n)) := fun e => by rcases e with e | e; exact h7 e; exact h5 e
  have hk0 := leaf_kids hnk
  have h5b : (c.kind == 5) = false ∨ ((c.kind == 5) = true ∧ decide (0 < c.n) = false ∧ ¬ 0 < c.n) := by
    by_cases e : c.kind = 5
    · exact .inr ⟨by rw [e]; rfl, decide_eq_false (fun q => h5 ⟨e, q⟩), fun q => h5 ⟨e, q⟩⟩
    · exact .inl (beq_eq_false_iff_ne.2 e)
  by_cases he : cellE c = 0
  · rw [he] at hwc
    have HE := Lib.hid he
    have hcle := Nat.le_trans (cost_le he) (Nat.add_le_add_left (kidsD_le c) 129)
    have hcz := fun W (hB : Below w.heap.size w W) => hcz W he hB
    by_cases hf : (room : Int) - (usedA l : Int) < (costC c : Int)
    · have E := Lib.hid (show leafE room l c = 30 by unfold leafE; rw [if_neg hnk, if_neg (by omega), if_pos hf])
      have E1 := Lib.hid (show leafL room l c = l by unfold leafL; rw [E.out, if_neg (by omega)])
      have E2 := Lib.hid (show leafX room l c = 0 by unfold leafX; rw [E.out, if_neg (by omega)])
      have hfb : decide ((room : Int) - (usedA l : Int) < (costC c : Int)) = true := decide_eq_true hf
      clear h7 h5 hnk hk0 he hf
      rcases h5b with e5 | ⟨e5, en, hn⟩
      all_goals
        go_enter Tryd.func68, Tryd.ntmps68
        go_wp2_with fail
        refine hwc.mono ?_
        rintro e w1 ⟨rfl, hb1⟩
        have hB1 := below_then HB0.out hb1
        have k0 := cell_below hb1 d0
        have k1 := cell_below hb1 d1
        have k2 := cell_below hb1 d2
        go_wp2_with fail
        refine (hcz _ hB1).mono ?_
        rintro e w2 ⟨rfl, hb2⟩
        have hB2 := below_then hB1 hb2
        go_wp2_with fail
        refine (room_any _ O ba room l (HA.out.below hB2)).mono ?_
        rintro e w3 ⟨rfl, hb3⟩
        go_wp2
        go_ret2
        rw [E.out, E1.out, E2.out]
        exact ⟨rfl, Made.of_below HA.out (below_then hB2 hb3)⟩
    · have E := Lib.hid (show leafE room l c = 0 by unfold leafE; rw [if_neg hnk, if_neg (by omega), if_neg hf])
      have E1 := Lib.hid (show leafL room l c = (makeA l c []).1 by unfold leafL; rw [E.out, if_pos rfl])
      have E2 := Lib.hid (show leafX room l c = (makeA l c []).2 by unfold leafX; rw [E.out, if_pos rfl])
      have hfb : decide ((room : Int) - (usedA l : Int) < (costC c : Int)) = false := decide_eq_false hf
      have hu : usedA l + costC c ≤ room := by omega
      have HK := Lib.hid hk0
      clear h7 h5 hnk hk0 he hf
      rcases h5b with e5 | ⟨e5, en, hn⟩
      all_goals
        go_enter Tryd.func68, Tryd.ntmps68
        go_wp2_with fail
        refine hwc.mono ?_
        rintro e w1 ⟨rfl, hb1⟩
        have hB1 := below_then HB0.out hb1
        have k0 := cell_below hb1 d0
        have k1 := cell_below hb1 d1
        have k2 := cell_below hb1 d2
        go_wp2_with fail
        refine (hcz _ hB1).mono ?_
        rintro e w2 ⟨rfl, hb2⟩
        have hB2 := below_then hB1 hb2
        have m0 := cell_below hb2 k0
        have m1 := cell_below hb2 k1
        have m2 := cell_below hb2 k2
        go_wp2_with fail
        refine (room_any _ O ba room l (HA.out.below hB2)).mono ?_
        rintro e w3 ⟨rfl, hb3⟩
        have hB3 := below_then hB2 hb3
        have p0 := cell_below hb3 m0
        have p1 := cell_below hb3 m1
        have p2 := cell_below hb3 m2
        have hmk : Calls Tryd.prog 59 #[.pointer (some ⟨ba, 0, none⟩), .agg #[.int .i64 c.kind, .int .i64 c.n, .string c.text], .slice none 0 0] w3 _ := make_any w3 O ba room l c [] none 0 (HA.out.below hB3) (HT.out.below hB3) HC.out HE.out (WReads.nil _ _) HK.out.symm (fun p hp => by cases hp) hu
        clear hb1 hb2 hb3 k0 k1 k2 m0 m1 m2 d0 d1 d2 hwc
        go_wp2_with fail
        refine hmk.mono ?_
        rintro e w4 ⟨rfl, hM⟩
        go_wp2
        go_ret2
        rw [E.out, E1.out, E2.out]
        exact ⟨rfl, Made.pre hB3 hM⟩
  · obtain ⟨x, hx⟩ : ∃ x, cellE c = x := ⟨_, rfl⟩
    have E := Lib.hid (show leafE room l c = x by unfold leafE; rw [if_neg hnk, if_pos he, hx])
    rw [hx] at hwc he
    have E1 := Lib.hid (show leafL room l c = l by unfold leafL; rw [E.out, if_neg he])
    have E2 := Lib.hid (show leafX room l c = 0 by unfold leafX; rw [E.out, if_neg he])
    have hb : (x != 0) = true := by simpa using he
    clear h7 h5 hnk hk0 he hx hcz
    rcases h5b with e5 | ⟨e5, en, hn⟩
    all_goals
      go_enter Tryd.func68, Tryd.ntmps68
      go_wp2_with fail
      refine hwc.mono ?_
      rintro e w1 ⟨rfl, hb1⟩
      go_wp2
      go_ret2
      rw [E.out, E1.out, E2.out]
      exact ⟨rfl, Made.of_below HA.out (below_then HB0.out hb1)⟩
set_option maxHeartbeats 1000000 in
theorem new_bad (cells : Int) (w : World) (h : cells < 0 ∨ 262144 < cells) :
    Calls Tryd.prog 17 #[.int .i64 cells] w fun e w' => e = .returned (.pointer none) ∧ Below w.heap.size w w' := by
  rcases h with h | h
  · have e0 : decide (cells < 0) = true := decide_eq_true h
    go_enter Tryd.func17, Tryd.ntmps17
    go_wp2
    go_ret
    exact ⟨rfl, Below.refl _ _⟩
  · have e0 : decide (cells < 0) = false := decide_eq_false (by omega)
    have e1 : decide (262144 < cells) = true := decide_eq_true h
    have n0 : ¬ cells < 0 := by omega
    go_enter Tryd.func17, Tryd.ntmps17
    go_wp2
    go_ret
    exact ⟨rfl, Below.refl _ _⟩
end Go.Proofs.YthgnihckeckaiaaDoor.Tm
