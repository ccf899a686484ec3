/- arena.hold, Tuple, Size; known. -/
import Derived.Test.YthgnihckeckaiaaDoorArG
import Derived.Deep.RegionHeld3
namespace Go.Proofs.YthgnihckeckaiaaDoor.Tm
open Go.RowKit
set_option linter.unusedVariables false
set_option linter.unusedSimpArgs false

def allFind (l : List ObjA) (ws : List Int) : Bool := ws.all fun w => (findA l w).isSome
def holdE (room : Nat) (l : List ObjA) (c : CellD) (ws : List Int) : Int := if allFind l ws = false then 31 else if (room : Int) - (usedA l : Int) < (costC c : Int) then 30 else 0
def holdL (room : Nat) (l : List ObjA) (c : CellD) (ws : List Int) : List ObjA := if holdE room l c ws = 0 then (makeA l c ws).1 else l
def holdX (room : Nat) (l : List ObjA) (c : CellD) (ws : List Int) : Int := if holdE room l c ws = 0 then (makeA l c ws).2 else 0
theorem allFind_bad {l : List ObjA} {ws : List Int} {j : Nat} (h : j < ws.length) (e : findA l ws[j] = none) : allFind l ws = false := by
  unfold allFind
  rw [List.all_eq_false]
  exact ⟨ws[j], List.getElem_mem _, by rw [e]; simp⟩
theorem allFind_all {l : List ObjA} {ws : List Int} (h : ∀ j (hj : j < ws.length), (findA l ws[j]).isSome = true) : allFind l ws = true := by
  unfold allFind
  rw [List.all_eq_true]
  intro x hx
  obtain ⟨j, hj, rfl⟩ := List.mem_iff_getElem.1 hx
  exact h j hj
set_option maxHeartbeats 4000000 in
theorem hold_any (w : World) (O : Nat → Prop) (ba room : Nat) (l : List ObjA) (c : CellD) (ws : List Int) (A : Option Addr) (cap : Nat) (h : ArAt w O ba room l) (hT : TabsA w) (hc : WfC c) (he : cellE c = 0) (hr : WReads w A ws) (hk : ws.length = kidsD c)
    (hR : ∀ p ∈ ws, 0 ≤ p ∧ p < 18446744073709551616) :
    Calls Tryd.prog 92 #[.pointer (some ⟨ba, 0, none⟩), .agg #[.int .i64 c.kind, .int .i64 c.n, .string c.text], .slice A ws.length cap] w fun e w' => e = .returned (.tuple #[.int .u64 (holdX room l c ws), .int .i64 (holdE room l c ws)]) ∧ Made w w' O ba room (holdL room l c ws) := by
  have hB0 := below_one w (.cells #[.int .i64 c.kind, .int .i64 c.n, .string c.text] 40)
  have hws : ws.length ≤ 255 := by rw [hk]; exact kidsD_le _
  have hlims := h.lims
  have HA := Lib.hid h
  have HT := Lib.hid hT
  have HC := Lib.hid hc
  have HE := Lib.hid he
  have HR := Lib.hid hr
  have HK := Lib.hid hk
  have HG := Lib.hid hR
  have hcl := Nat.le_trans (cost_le he) (Nat.add_le_add_left (kidsD_le c) 129)
  have HB0 := Lib.hid hB0
  clear h hT hc he hr hk hR hB0
  go_enter Tryd.func92, Tryd.ntmps92
  go_wp2_with fail
  go_loopw [14] (fun i wr => ∃ j : Nat, j ≤ ws.length ∧ i = .int .i64 (j : Int) ∧ Hid (Below (w.alloc (.cells #[.int .i64 c.kind, .int .i64 c.n, .string c.text] 40)).heap.size (w.alloc (.cells #[.int .i64 c.kind, .int .i64 c.n, .string c.text] 40)) wr) ∧ Hid (∀ k (hk : k < ws.length), k < j → (findA l ws[k]).isSome = true)) (fun i wr => ws.length - (intOf i).toNat)
  case atStart => exact ⟨0, Nat.zero_le _, rfl, Lib.hid (Below.refl _ _), Lib.hid fun k hk h => by omega⟩
  case round =>
    obtain ⟨j, hj, rfl, hB, hF⟩ := hrel
    have hB2 := below_then HB0.out hB.out
    by_cases hlt : j < ws.length
    · obtain ⟨b, o, rfl, hc⟩ := HR.out.below hB2 j hlt
      have hg := HG.out ws[j] (List.getElem_mem _)
      have hfind := find_any wr O ba room l ws[j] hg.1 hg.2 (HA.out.below hB2)
      cases hf : findA l ws[j] with
      | none =>
        rw [hf] at hfind
        have e1 : holdE room l c ws = 31 := by unfold holdE; rw [if_pos (allFind_bad hlt hf)]
        have H := Lib.hid (⟨e1, by unfold holdL; rw [e1, if_neg (by omega)], by unfold holdX; rw [e1, if_neg (by omega)]⟩ : holdE room l c ws = 31 ∧ holdL room l c ws = l ∧ holdX room l c ws = 0)
        generalize ws[j] = x at *
        clear e1 hf
        go_wp2_with fail
        refine hfind.mono ?_
        rintro e w' ⟨⟨k, rfl⟩, hb⟩
        go_wp2
        go_ret2
        rw [H.out.1, H.out.2.1, H.out.2.2]
        exact ⟨rfl, Made.of_below HA.out (below_then hB2 hb)⟩
      | some k =>
        rw [hf] at hfind
        have hF2 : Hid (∀ k (hk : k < ws.length), k < j + 1 → (findA l ws[k]).isSome = true) := Lib.hid fun i hi h => by
          by_cases e : i = j
          · subst e; rw [hf]; rfl
          · exact hF.out i hi (by omega)
        generalize ws[j] = x at *
        clear hf
        go_wp2_with fail
        refine hfind.mono ?_
        rintro e w' ⟨he, hb⟩
        obtain rfl : e = _ := he
        have hB3 := Lib.hid (below_then hB.out hb)
        go_wp2
        go_roundw
        case rel => exact ⟨j + 1, by omega, by go_num, hB3, hF2⟩
        case measure => simp [intOf]; omega
    · obtain rfl : j = ws.length := by omega
      have hall := allFind_all (fun k hk => hF.out k hk hk)
      have e0 : holdE room l c ws = if (room : Int) - (usedA l : Int) < (costC c : Int) then 30 else 0 := by unfold holdE; rw [if_neg (by rw [hall]; simp)]
      have c0 := cell_below hB.out (a := ⟨w.heap.size, 0, none⟩) (v := .int .i64 c.kind) (by go_cell)
      have c1 := cell_below hB.out (a := ⟨w.heap.size, 1, none⟩) (v := .int .i64 c.n) (by go_cell)
      have c2 := cell_below hB.out (a := ⟨w.heap.size, 2, none⟩) (v := .string c.text) (by go_cell)
      have hok : ∀ p ∈ ws, FindOk l p := fun p hp => by
        obtain ⟨k, hk, rfl⟩ := List.mem_iff_getElem.1 hp
        exact ⟨hF.out k hk hk, HG.out _ hp⟩
      have HB2 := Lib.hid hB2
      go_wp2_with fail
      refine (cost_any c _ (HT.out.below hB2) HC.out HE.out).mono ?_
      rintro e w1 ⟨rfl, hb1⟩
      have hB3 := below_then hB2 hb1
      have d0 := cell_below hb1 c0
      have d1 := cell_below hb1 c1
      have d2 := cell_below hb1 c2
      have S1 := Lib.hid (rfl : costC c = costC c)
      go_wp2_with fail
      refine (room_any _ O ba room l (HA.out.below hB3)).mono ?_
      rintro e w2 ⟨rfl, hb2⟩
      have hB4 := below_then hB3 hb2
      have f0 := cell_below hb2 d0
      have f1 := cell_below hb2 d1
      have f2 := cell_below hb2 d2
      clear hB hF hB2 hb1 hb2 c0 c1 c2 d0 d1 d2 hall hlt hj
      by_cases hu : (room : Int) - (usedA l : Int) < (costC c : Int)
      · have hub : decide ((room : Int) - (usedA l : Int) < (costC c : Int)) = true := decide_eq_true hu
        rw [if_pos hu] at e0
        have H := Lib.hid (⟨e0, by unfold holdL; rw [e0, if_neg (by omega)], by unfold holdX; rw [e0, if_neg (by omega)]⟩ : holdE room l c ws = 30 ∧ holdL room l c ws = l ∧ holdX room l c ws = 0)
        clear e0
        go_wp2
        go_ret2
        rw [H.out.1, H.out.2.1, H.out.2.2]
        exact ⟨rfl, Made.of_below HA.out hB4⟩
      · have hub : decide ((room : Int) - (usedA l : Int) < (costC c : Int)) = false := decide_eq_false hu
        rw [if_neg hu] at e0
        have H := Lib.hid (⟨e0, by unfold holdL; rw [e0, if_pos rfl], by unfold holdX; rw [e0, if_pos rfl]⟩ : holdE room l c ws = 0 ∧ holdL room l c ws = (makeA l c ws).1 ∧ holdX room l c ws = (makeA l c ws).2)
        have hmk := make_any w2 O ba room l c ws A cap (HA.out.below hB4) (HT.out.below hB4) HC.out HE.out (HR.out.below hB4) HK.out hok (by omega)
        clear e0 hu
        go_wp2_with fail
        refine hmk.mono ?_
        rintro e w3 ⟨rfl, hM⟩
        go_wp2
        go_ret2
        rw [H.out.1, H.out.2.1, H.out.2.2]
        refine ⟨rfl, ?_⟩
        obtain ⟨O', a1, a2, a3, a4⟩ := hM
        have hsz := hB4.size
        exact ⟨O', a1, a2, fun k hk => (a3 k hk).imp id (fun e => by omega), (Fr.of_below hB4).trans a4⟩
end Go.Proofs.YthgnihckeckaiaaDoor.Tm
