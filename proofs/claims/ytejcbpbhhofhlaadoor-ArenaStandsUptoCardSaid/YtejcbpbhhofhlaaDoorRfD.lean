/- Layer 3's reference: leaf, lay. -/
import Derived.Test.YtejcbpbhhofhlaaDoorRfC
import Derived.Test.YtejcbpbhhofhlaaDoorRfP
namespace Go.Proofs.YtejcbpbhhofhlaaDoor.Tm
open Go.RowKit
set_option linter.unusedVariables false
set_option linter.unusedSimpArgs false

def ValR.agg (v : ValR) : Value := .agg #[.int .i64 v.obj, .int .i64 v.cell.kind, .int .i64 v.cell.n, .string v.cell.text]
def NoX : Nat → Prop := fun _ => False
theorem RfAt.fr1 {w w' : World} {O : Nat → Prop} {ra cells : Nat} {rs : List ObjR} {b : Nat} (h : RfAt w O ra cells rs) (hb : ¬ O b) (hF : Fr (fun k => k = b) w w') : RfAt w' O ra cells rs := h.fr hF fun k hk e => hb (e ▸ hk)
theorem RMade.set {w w1 w2 w3 : World} {O X : Nat → Prop} {ra cells : Nat} {rs : List ObjR} {b : Nat} (hB : Below w.heap.size w w1) (h : RMade w1 w2 O X ra cells rs) (hO : ∀ k, O k → k < w.heap.size) (hX : ∀ k, ¬ X k) (hb1 : w.heap.size ≤ b) (hb2 : b < w1.heap.size) (hF : Fr (fun k => k = b) w2 w3) :
    RMade w w3 O NoX ra cells rs := by
  obtain ⟨O', a1, a2, a3, a4⟩ := h
  have hs := hB.size
  have hnb : ¬ O' b := fun hk => by
    rcases a3 b hk with h | h | h
    · have := hO b h; omega
    · exact hX b h
    · omega
  refine ⟨O', a1.fr1 hnb hF, a2, fun k hk => ?_, ?_⟩
  · rcases a3 k hk with h | h | h
    · exact .inl h
    · exact absurd h (hX k)
    · exact .inr (.inr (by omega))
  · exact ((Fr.of_below hB).trans a4).trans' hF fun k hk e => by omega
theorem fr_set4 {w : World} {b : Nat} (v0 v1 v2 v3 : Value) : Fr (fun k => k = b) w ((((w.setCell ⟨b, 0, none⟩ v0).setCell ⟨b, 1, none⟩ v1).setCell ⟨b, 2, none⟩ v2).setCell ⟨b, 3, none⟩ v3) :=
  fr_set (fr_set (fr_set (fr_set (Fr.refl (fun k => k = b) w) rfl 0 v0) rfl 1 v1) rfl 2 v2) rfl 3 v3
theorem blk_set4 {w : World} {b : Nat} {u0 u1 u2 u3 : Value} {t : TypeId} (h : BlkIs w b #[u0, u1, u2, u3] t) (v0 v1 v2 v3 : Value) : BlkIs ((((w.setCell ⟨b, 0, none⟩ v0).setCell ⟨b, 1, none⟩ v1).setCell ⟨b, 2, none⟩ v2).setCell ⟨b, 3, none⟩ v3) b #[v0, v1, v2, v3] t := by
  have := (((h.set 0 v0).set 1 v1).set 2 v2).set 3 v3
  simpa using this
set_option maxHeartbeats 2000000 in
theorem rleaf_any (w : World) (O : Nat → Prop) (ra cells : Nat) (rs : List ObjR) (c : CellD) (h : RfAt w O ra cells rs) (hl : rs.length ≤ 1000000) :
    Calls Tryd.prog 57 #[.pointer (some ⟨ra, 0, none⟩), .agg #[.int .i64 c.kind, .int .i64 c.n, .string c.text]] w fun e w' => e = .returned (leafR rs c).2.agg ∧ RMade w w' O NoX ra cells (leafR rs c).1 := by
  obtain ⟨wA, hwA⟩ : ∃ W, (w.alloc (.cells #[.int .i64 c.kind, .int .i64 c.n, .string c.text] 37)).alloc (.cells #[.int .i64 0, .int .i64 0, .int .i64 0, .string ⟨#[]⟩] 39) = W := ⟨_, rfl⟩
  have hBA : Below w.heap.size w wA := hwA ▸ below_alloc' (below_one w _) _
  have hXA : BlkIs wA w.heap.size #[.int .i64 c.kind, .int .i64 c.n, .string c.text] 37 := by
    rw [← hwA]
    exact (Below.heap_alloc _ _ _ (by rw [World.size_alloc]; omega)).trans (heap_new w _)
  have hYA : BlkIs wA (w.heap.size + 1) #[.int .i64 0, .int .i64 0, .int .i64 0, .string ⟨#[]⟩] 39 := by
    have := heap_new (w.alloc (.cells #[.int .i64 c.kind, .int .i64 c.n, .string c.text] 37)) (.cells #[.int .i64 0, .int .i64 0, .int .i64 0, .string ⟨#[]⟩] 39)
    rw [World.size_alloc, hwA] at this
    exact this
  have HBA := Lib.hid hBA
  have HXA := Lib.hid hXA
  have HYA := Lib.hid hYA
  have HWA := Lib.hid hwA
  have H := Lib.hid h
  have hlim := fun k hk => (h.lim k hk).2
  have HLIM := Lib.hid hlim
  have hsm := fun W => small_any c W
  clear hBA hXA hYA hwA h hlim
  have x0 := HXA.out.cell 0 rfl
  have x1 := HXA.out.cell 1 rfl
  have x2 := HXA.out.cell 2 rfl
  by_cases hs : SmallC c
  · have hb : smallB c = true := (smallB_iff c).2 hs
    have HL := Lib.hid (show leafR rs c = (rs, ⟨-1, c⟩) by unfold leafR; rw [if_pos hs])
    simp only [hb] at hsm
    clear hb hs
    go_enter Tryd.func57, Tryd.ntmps57
    go_wp2_with fail
    rw [HWA.out]
    refine (hsm _).mono ?_
    rintro e w1 ⟨rfl, hb1⟩
    have hB1 := below_then HBA.out hb1
    have y0 := cell_below hb1 x0
    have y1 := cell_below hb1 x1
    have y2 := cell_below hb1 x2
    have BY := HYA.out.below hb1
    have z0 := BY.cell 0 (v := .int .i64 0) rfl
    have z1 := BY.cell 1 (v := .int .i64 0) rfl
    have z2 := BY.cell 2 (v := .int .i64 0) rfl
    have z3 := BY.cell 3 (v := .string ⟨#[]⟩) rfl
    have f0 := BY.frozen 0
    have f1 := BY.frozen 1
    have f2 := BY.frozen 2
    have f3 := BY.frozen 3
    have hbl := BY.lt
    have BZ := Lib.hid (blk_set4 BY (.int .i64 (-1)) (.int .i64 c.kind) (.int .i64 c.n) (.string c.text))
    have HB1 := Lib.hid hB1
    clear BY hb1 hB1 x0 x1 x2
    go_wp2
    obtain ⟨q0, q1, q2, q3⟩ := (⟨BZ.out.cell 0 rfl, BZ.out.cell 1 rfl, BZ.out.cell 2 rfl, BZ.out.cell 3 rfl⟩ : _ ∧ _ ∧ _ ∧ _)
    refine bodyPost_ret (v := .agg #[.int .i64 (-1), .int .i64 c.kind, .int .i64 c.n, .string c.text]) (by simp [results, Tryd.results57, go_sem, q0, q1, q2, q3]) rfl ?_
    rw [HL.out]
    refine ⟨rfl, RMade.set HB1.out (RMade.of_below (X := NoX) (H.out.below HB1.out) (Below.refl _ _)) HLIM.out (fun k h => h) (b := w.heap.size + 1) (by omega) hbl (fr_set4 _ _ _ _)⟩
  · have hb : smallB c = false := by rw [smallB_eq]; simp [hs]
    have HL := Lib.hid (show leafR rs c = (rs ++ [⟨c, []⟩], ⟨(rs.length : Int), c⟩) by unfold leafR; rw [if_neg hs]; rfl)
    simp only [hb] at hsm
    clear hb hs
    go_enter Tryd.func57, Tryd.ntmps57
    go_wp2_with fail
    rw [HWA.out]
    refine (hsm _).mono ?_
    rintro e w1 ⟨rfl, hb1⟩
    have hB1 := below_then HBA.out hb1
    have y0 := cell_below hb1 x0
    have y1 := cell_below hb1 x1
    have y2 := cell_below hb1 x2
    have HB1 := Lib.hid hB1
    have BY := Lib.hid (HYA.out.below hb1)
    have hmk : Calls Tryd.prog 58 #[.pointer (some ⟨ra, 0, none⟩), .agg #[.int .i64 c.kind, .int .i64 c.n, .string c.text, .slice none 0 0]] w1 _ := rmake_any w1 O ra cells rs ⟨c, []⟩ none 0 (H.out.below hB1) (VReads.nil _ _) (Nat.le_refl _) (fun b q e => by cases e) hl
    clear hb1 hB1 x0 x1 x2
    go_wp2_with fail
    refine hmk.mono ?_
    rintro e w2 ⟨rfl, hM⟩
    have hs1 := HB1.out.size
    have hbl1 := BY.out.lt
    have hXn : ∀ k, ¬ (∃ q, (none : Option Addr) = some ⟨k, q, none⟩) := fun k ⟨q, e⟩ => by cases e
    have BY2 : BlkIs w2 (w.heap.size + 1) #[.int .i64 0, .int .i64 0, .int .i64 0, .string ⟨#[]⟩] 39 := by
      obtain ⟨O', a1, a2, a3, a4⟩ := hM
      exact (a4.block _ hbl1 (fun h => by have := HLIM.out _ h; omega)).trans BY.out
    have z0 := BY2.cell 0 (v := .int .i64 0) rfl
    have z1 := BY2.cell 1 (v := .int .i64 0) rfl
    have z2 := BY2.cell 2 (v := .int .i64 0) rfl
    have z3 := BY2.cell 3 (v := .string ⟨#[]⟩) rfl
    have f0 := BY2.frozen 0
    have f1 := BY2.frozen 1
    have f2 := BY2.frozen 2
    have f3 := BY2.frozen 3
    have BZ := Lib.hid (blk_set4 BY2 (.int .i64 (rs.length : Int)) (.int .i64 c.kind) (.int .i64 c.n) (.string c.text))
    have HM := Lib.hid hM
    clear BY2 hM hmk
    go_wp2
    obtain ⟨q0, q1, q2, q3⟩ := (⟨BZ.out.cell 0 rfl, BZ.out.cell 1 rfl, BZ.out.cell 2 rfl, BZ.out.cell 3 rfl⟩ : _ ∧ _ ∧ _ ∧ _)
    refine bodyPost_ret (v := .agg #[.int .i64 (rs.length : Int), .int .i64 c.kind, .int .i64 c.n, .string c.text]) (by simp [results, Tryd.results57, go_sem, q0, q1, q2, q3]) rfl ?_
    rw [HL.out]
    exact ⟨rfl, RMade.set HB1.out HM.out HLIM.out hXn (b := w.heap.size + 1) (by omega) hbl1 (fr_set4 _ _ _ _)⟩
end Go.Proofs.YtejcbpbhhofhlaaDoor.Tm
