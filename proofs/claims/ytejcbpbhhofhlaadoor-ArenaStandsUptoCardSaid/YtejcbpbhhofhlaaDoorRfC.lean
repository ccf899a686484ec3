/- Layer 3's reference: make, leaf. -/
import Derived.Test.YtejcbpbhhofhlaaDoorRfB
namespace Go.Proofs.YtejcbpbhhofhlaaDoor.Tm
open Go.RowKit
set_option linter.unusedVariables false
set_option linter.unusedSimpArgs false

/-- What a call of the reference's arena leaves. -/
def RMade (w w' : World) (O X : Nat → Prop) (ra cells : Nat) (rs : List ObjR) : Prop :=
  ∃ O', RfAt w' O' ra cells rs ∧ (∀ k, O k → O' k) ∧ (∀ k, O' k → O k ∨ X k ∨ w.heap.size ≤ k) ∧ Fr O w w'
theorem RMade.of_below {w w' : World} {O X : Nat → Prop} {ra cells : Nat} {rs : List ObjR} (h : RfAt w O ra cells rs) (hB : Below w.heap.size w w') : RMade w w' O X ra cells rs :=
  ⟨O, h.below hB, fun _ h => h, fun _ h => .inl h, Fr.of_below hB⟩
theorem robj_info : (Tryd.prog.info? 99).map (fun i => (i.zero, i.size, i.bytes)) = some (some (.agg #[.int .i64 0, .int .i64 0, .string ⟨#[]⟩, .slice none 0 0]), 4, 56) := by kernel_rfl
theorem one4 {a b : Int} {t : ByteArray} {A : Option Addr} {n c : Nat} : ∀ u ∈ ([.int .i64 a, .int .i64 b, .string t, .slice A n c] : List Value), u.oneCell' = true := by
  intro u hu
  simp at hu
  rcases hu with rfl | rfl | rfl | rfl <;> rfl
structure RMid (w wx : World) (ra : Nat) (cells : Int) (rs : List ObjR) (o : ObjR) (vO : Value) (pv : List Value) (A : Option Addr) (c g cap : Nat) : Prop where
  blk : BlkIs wx ra #[.int .i64 cells, .slice (some ⟨g, 0, none⟩) (rs.length + 1) cap] 29
  box : BlkIs wx w.heap.size #[.int .i64 o.cell.kind, .int .i64 o.cell.n, .string o.cell.text, .slice A o.parts.length c] 99
  res : BlkIs wx (w.heap.size + 1) #[.int .i64 0, .int .i64 0, .int .i64 0, .string ⟨#[]⟩] 39
  row : wx.ownsRow 3 99 4 (.slice (some ⟨g, 0, none⟩) (rs.length + 1) cap) (rs.length + 1) (encRs (rs ++ [o]) (pv ++ [.slice A o.parts.length c]))
  fr : Fr (fun k => k = ra ∨ vO.ownBlock = some k) w wx
  at_ : vO.ownBlock = some g ∨ w.heap.size ≤ g
theorem rmid_final {w wx w' : World} {O : Nat → Prop} {ra cells : Nat} {rs : List ObjR} {o : ObjR} {vO : Value} {pv : List Value} {A : Option Addr} {c g cap : Nat} (hR : RfRep w O ra cells rs vO pv) (hM : RMid w wx ra (cells : Int) rs o vO pv A c g cap)
    (hr : VReads w A o.parts) (hc : o.parts.length ≤ c) (hA : ∀ b q, A = some ⟨b, q, none⟩ → ¬ O b ∧ 3 ≤ b ∧ b < w.heap.size) (hF : Fr (fun k => k = w.heap.size + 1) wx w') :
    RMade w w' O (fun k => ∃ q, A = some ⟨k, q, none⟩) ra cells (rs ++ [o]) := by
  have hra := (hR.lim _ hR.ora).2
  have hs := hM.fr.size
  have hbl := hM.res.lt
  have hOlt : ∀ k, vO.ownBlock = some k → k < w.heap.size := fun k hk => (hR.lim _ (hR.oO k hk).1).2
  have hga : g ≠ ra := fun e => by
    rcases hM.at_ with h | h
    · exact (hR.oO _ h).2 e
    · omega
  have hgl := row_lt hM.row g rfl
  have hg1 : g ≠ w.heap.size + 1 := fun e => by
    rcases hM.row.2 with ⟨h, _⟩ | ⟨g', _, cur, h, _, hh, _⟩
    · cases h
    · cases h
      have hb := hM.res
      unfold BlkIs at hb
      rw [← e, hh] at hb
      injection hb with hb
      injection hb with _ hb
      exact absurd hb (by decide)
  have keep : ∀ k, k < w.heap.size → k ≠ ra → vO.ownBlock ≠ some k → w'.heap[k]? = w.heap[k]? := fun k hk h1 h2 =>
    (hF.block k (by omega) (by omega)).trans (hM.fr.block k hk (fun h => by rcases h with h | h; exact h1 h; exact h2 h))
  refine ⟨fun k => O k ∨ k = g ∨ ∃ q, A = some ⟨k, q, none⟩, ⟨.slice (some ⟨g, 0, none⟩) (rs.length + 1) cap, pv ++ [.slice A o.parts.length c], ?_⟩, fun k h => .inl h, ?_, ?_⟩
  · refine { blk := ?_, row := ?_, pl := by simp [hR.pl], ps := ?_, ora := .inl hR.ora, oO := ?_, lim := ?_ }
    · exact (hF.block ra (by omega) (by omega)).trans hM.blk
    · rw [List.length_append, List.length_singleton]
      exact row_of_block hM.row fun k hk => by
        have : g = k := by simpa [Value.ownBlock] using hk
        subst this
        exact hF.block g hgl hg1
    · intro i h1 h2
      by_cases hi : i < rs.length
      · rw [List.getElem_append_left (by rw [hR.pl]; exact hi), List.getElem_append_left hi]
        obtain ⟨A', c', e1, e2, e3, e4⟩ := hR.ps i hi (by rw [hR.pl]; exact hi)
        have hq : ∀ b q, A' = some ⟨b, q, none⟩ → O b ∧ b ≠ ra ∧ vO.ownBlock ≠ some b := fun b q e => ⟨(e4 b q e).1, fun h => (e4 b q e).2 (.inl h), fun h => (e4 b q e).2 (.inr h)⟩
        refine ⟨A', c', e1, e2, e3.same fun b q e => ?_, fun b q e => ?_⟩
        · obtain ⟨q1, q2, q3⟩ := hq b q e
          exact keep b (hR.lim b q1).2 q2 q3
        · obtain ⟨q1, q2, q3⟩ := hq b q e
          refine ⟨.inl q1, fun h => ?_⟩
          rcases h with h | h
          · exact q2 h
          · have : g = b := by simpa [Value.ownBlock] using h
            subst this
            rcases hM.at_ with h' | h'
            · exact q3 h'
            · have := (hR.lim _ q1).2; omega
      · have hi' : i = rs.length := by simp at h1; omega
        subst hi'
        rw [List.getElem_append_right (by rw [hR.pl]; exact Nat.le_refl _), List.getElem_append_right (Nat.le_refl _)]
        simp only [hR.pl, Nat.sub_self, List.getElem_cons_zero]
        refine ⟨A, c, rfl, hc, hr.same fun b q e => ?_, fun b q e => ?_⟩
        · obtain ⟨q1, q2, q3⟩ := hA b q e
          exact keep b q3 (fun h => q1 (h ▸ hR.ora)) (fun h => q1 (hR.oO _ h).1)
        · obtain ⟨q1, q2, q3⟩ := hA b q e
          refine ⟨.inr (.inr ⟨q, e⟩), fun h => ?_⟩
          rcases h with h | h
          · exact q1 (h ▸ hR.ora)
          · have : g = b := by simpa [Value.ownBlock] using h
            subst this
            rcases hM.at_ with h' | h'
            · exact q1 (hR.oO _ h').1
            · omega
    · intro k hk
      have : g = k := by simpa [Value.ownBlock] using hk
      subst this
      exact ⟨.inr (.inl rfl), hga⟩
    · intro k hk
      have hs' := hF.size
      rcases hk with hk | hk | ⟨q, hk⟩
      · have := hR.lim k hk; omega
      · subst hk
        rcases hM.at_ with h | h
        · have := hR.lim _ (hR.oO _ h).1; omega
        · have := (hR.lim _ hR.ora).1; omega
      · have := hA k q hk; omega
  · intro k hk
    rcases hk with hk | hk | hk
    · exact .inl hk
    · subst hk
      rcases hM.at_ with h | h
      · exact .inl (hR.oO _ h).1
      · exact .inr (.inr h)
    · exact .inr (.inl hk)
  · have F1 : Fr O w wx := hM.fr.mono fun k _ h => by
      rcases h with h | h
      · rw [h]; exact hR.ora
      · exact (hR.oO _ h).1
    exact F1.trans' hF fun k hk e => by omega
set_option maxRecDepth 10000 in
set_option maxHeartbeats 4000000 in
theorem rmake_any (w : World) (O : Nat → Prop) (ra cells : Nat) (rs : List ObjR) (o : ObjR) (A : Option Addr) (cp : Nat) (h : RfAt w O ra cells rs) (hr : VReads w A o.parts) (hcp : o.parts.length ≤ cp) (hA : ∀ b q, A = some ⟨b, q, none⟩ → ¬ O b ∧ 3 ≤ b ∧ b < w.heap.size) (hl : rs.length ≤ 1000000) :
    Calls Tryd.prog 58 #[.pointer (some ⟨ra, 0, none⟩), .agg #[.int .i64 o.cell.kind, .int .i64 o.cell.n, .string o.cell.text, .slice A o.parts.length cp]] w fun e w' => e = .returned (.agg #[.int .i64 (rs.length : Int), .int .i64 o.cell.kind, .int .i64 o.cell.n, .string o.cell.text]) ∧ RMade w w' O (fun k => ∃ q, A = some ⟨k, q, none⟩) ra cells (rs ++ [o]) := by
  obtain ⟨vO, pv, hR⟩ := h
  have HR := Lib.hid hR
  have HV := Lib.hid hr
  have HA := Lib.hid hA
  obtain ⟨AO, cO, hvO⟩ := row_slice hR.row
  have HO := Lib.hid hvO
  obtain ⟨c0, c1⟩ := hR.cells
  rw [hvO] at c1
  have hra := (hR.lim _ hR.ora).2
  have hra3 := (hR.lim _ hR.ora).1
  have hrow := hR.row
  rw [hvO] at hrow
  obtain ⟨wA, hwA⟩ : ∃ W, (w.alloc (.cells #[.int .i64 o.cell.kind, .int .i64 o.cell.n, .string o.cell.text, .slice A o.parts.length cp] 99)).alloc (.cells #[.int .i64 0, .int .i64 0, .int .i64 0, .string ⟨#[]⟩] 39) = W := ⟨_, rfl⟩
  have hBA : Below w.heap.size w wA := hwA ▸ below_alloc' (below_one w _) _
  have hXA : BlkIs wA w.heap.size #[.int .i64 o.cell.kind, .int .i64 o.cell.n, .string o.cell.text, .slice A o.parts.length cp] 99 := by
    rw [← hwA]
    exact (Below.heap_alloc _ _ _ (by rw [World.size_alloc]; omega)).trans (heap_new w _)
  have hYA : BlkIs wA (w.heap.size + 1) #[.int .i64 0, .int .i64 0, .int .i64 0, .string ⟨#[]⟩] 39 := by
    have := heap_new (w.alloc (.cells #[.int .i64 o.cell.kind, .int .i64 o.cell.n, .string o.cell.text, .slice A o.parts.length cp] 99)) (.cells #[.int .i64 0, .int .i64 0, .int .i64 0, .string ⟨#[]⟩] 39)
    rw [World.size_alloc, hwA] at this
    exact this
  have HBA := Lib.hid hBA
  have HXA := Lib.hid hXA
  have HYA := Lib.hid hYA
  have HROW := Lib.hid (row_below hrow hBA)
  have B0 := Lib.hid (show BlkIs wA ra #[.int .i64 (cells : Int), .slice AO rs.length cO] 29 from (hBA.block ra hra).trans (by rw [← hvO]; exact hR.blk))
  have hnb : (Value.slice AO rs.length cO).ownBlock ≠ some ra := by rw [← hvO]; exact fun e => (hR.oO _ e).2 rfl
  have hOlt : ∀ k, vO.ownBlock = some k → k < w.heap.size := fun k hk => (hR.lim _ (hR.oO k hk).1).2
  have hsA := hBA.size
  have hlA : wA.heap.size = w.heap.size + 2 := by rw [← hwA, World.size_alloc, World.size_alloc]
  have HWA := Lib.hid hwA
  have HLA := Lib.hid hlA
  clear hR hr hA hvO hrow hBA hXA hYA c0 c1 hwA hlA
  go_enter Tryd.func58, Tryd.ntmps58
  go_wp2_with fail
  rw [HWA.out]
  have c1 := B0.out.cell 1 (v := .slice AO rs.length cO) rfl
  have x0 := HXA.out.cell 0 rfl
  have x1 := HXA.out.cell 1 rfl
  have x2 := HXA.out.cell 2 rfl
  have x3 := HXA.out.cell 3 rfl
  have c1b := cell_below (below_one wA (.cells #[.int .i64 o.cell.kind, .int .i64 o.cell.n, .string o.cell.text, .slice A o.parts.length cp] 99)) c1
  obtain ⟨i0, hi, hz0, hz1, hz2⟩ := info_parts robj_info
  have hA1 : rs.length + 1 ≤ maxLen := by unfold maxLen; omega
  have hA2 : (rs.length + 1) * 56 ≤ 140737488355328 := by omega
  have hA3 : 3 ≤ (wA.alloc (.cells #[.int .i64 o.cell.kind, .int .i64 o.cell.n, .string o.cell.text, .slice A o.parts.length cp] 99)).heap.size := by rw [World.size_alloc]; omega
  clear HWA
  go_cut [] (fun wx => ∃ g cap, Hid (RMid w wx ra (cells : Int) rs o vO pv A cp g cap))
  case first =>
    go_region_law (refine step_append_lies _ (by rfl) _ _ _ (by rfl) 3 99 i0 _ 4 56 Tryd.underlying27 hi hz0 hz1 hz2 rfl (by omega) (.slice AO rs.length cO) rs.length (encRs rs pv) (by rfl) ((row_below HROW.out ((Below.refl _ _).drew)).alloc _) ⟨wA.heap.size, 0, none⟩ 1 1 [.int .i64 o.cell.kind, .int .i64 o.cell.n, .string o.cell.text, .slice A o.parts.length cp] (by rfl) (by rfl) (World.news_of_block (cs := #[.int .i64 o.cell.kind, .int .i64 o.cell.n, .string o.cell.text, .slice A o.parts.length cp]) (t := 99) (fr := (0, 0)) (heap_alloc_new wA.drew _)) one4 (by omega) hA1 hA2 hA3 (wA.heap.size + 1) (World.size_alloc _ _) ?_; intro g cap w6 hown6 hgrow6 hat6 hlt6; have B6 := Lib.hid (((B0.out.below ((Below.refl _ _).drew)).below (below_one wA.drew (.cells #[.int .i64 o.cell.kind, .int .i64 o.cell.n, .string o.cell.text, .slice A o.parts.length cp] 99))).grown hgrow6 hnb); have t5 := B6.out.cell 1 (v := .slice AO rs.length cO) rfl; have t6 := B6.out.frozen 1)
    all_goals go_wp2_with fail
    all_goals go_meet
    all_goals
      have hbx : Below wA.heap.size wA (wA.drew.alloc (.cells #[.int .i64 o.cell.kind, .int .i64 o.cell.n, .string o.cell.text, .slice A o.parts.length cp] 99)) := below_then ((Below.refl _ _).drew) (below_one wA.drew _)
      have hgrow7 : (wA.drew.alloc (.cells #[.int .i64 o.cell.kind, .int .i64 o.cell.n, .string o.cell.text, .slice A o.parts.length cp] 99)).grownBy w6 (Value.slice AO rs.length cO).ownBlock := hgrow6
      rw [← HO.out] at hgrow7 hat6
      have hlA := HLA.out
      have hga : ra ≠ g := fun e => by
        rcases hat6 with h | h
        · exact hnb (by rw [← HO.out, h, e])
        · omega
      have hro : w6.ownsRow 3 99 4 (.slice (some ⟨g, 0, none⟩) (rs.length + 1) cap) (rs.length + 1) (encRs (rs ++ [o]) (pv ++ [.slice A o.parts.length cp])) := by
        rw [encRs_snoc _ _ _ _ HR.out.pl]; exact hown6
      refine ⟨g, cap, Lib.hid {
        blk := by have := B6.out.set 1 (.slice (some ⟨g, 0, none⟩) (rs.length + 1) cap); simpa using this
        box := ((HXA.out.below hbx).grown hgrow7 (fun e => by have := hOlt _ e; omega)).other (by omega) _ _
        res := ((HYA.out.below hbx).grown hgrow7 (fun e => by have := hOlt _ e; omega)).other (by omega) _ _
        row := row_other hro (fun e => hga (by simpa [Value.ownBlock] using e.symm)) _ _
        fr := fr_set (fr_grown (fr_below (Fr.of_below HBA.out) hbx) hgrow7 (fun k e => .inr e)) (.inl rfl) _ _
        at_ := hat6.imp id (fun e => by omega) }⟩
  case rest =>
    obtain ⟨g, cap, HM⟩ := hcut
    obtain ⟨w7, hw7⟩ : ∃ W, W = wc := ⟨_, rfl⟩
    subst hw7
    have d1 := HM.out.blk.cell 1 (v := .slice (some ⟨g, 0, none⟩) (rs.length + 1) cap) rfl
    have y0 := HM.out.box.cell 0 (v := .int .i64 o.cell.kind) rfl
    have y1 := HM.out.box.cell 1 (v := .int .i64 o.cell.n) rfl
    have y2 := HM.out.box.cell 2 (v := .string o.cell.text) rfl
    have z0 := HM.out.res.cell 0 (v := .int .i64 0) rfl
    have z1 := HM.out.res.cell 1 (v := .int .i64 0) rfl
    have z2 := HM.out.res.cell 2 (v := .int .i64 0) rfl
    have z3 := HM.out.res.cell 3 (v := .string ⟨#[]⟩) rfl
    have f0 := HM.out.res.frozen 0
    have f1 := HM.out.res.frozen 1
    have f2 := HM.out.res.frozen 2
    have f3 := HM.out.res.frozen 3
    have wr1 : IntKind.i64.wrap ((rs.length : Int) + 1 - 1) = (rs.length : Int) := by rw [IntKind.wrap_i64]; omega
    clear c1 c1b x0 x1 x2 x3 hi hz0 hz1 hz2 i0 hA1 hA2 hA3
    go_wp2_with fail
    go_region
    have BR := (((HM.out.res.set 0 (.int .i64 (rs.length : Int))).set 1 (.int .i64 o.cell.kind)).set 2 (.int .i64 o.cell.n)).set 3 (.string o.cell.text)
    have FR := Lib.hid (fr_drew (fr_set (O := fun k => k = w.heap.size + 1) (fr_set (fr_set (fr_set (Fr.refl (fun k => k = w.heap.size + 1) w7) rfl 0 (.int .i64 (rs.length : Int))) rfl 1 (.int .i64 o.cell.kind)) rfl 2 (.int .i64 o.cell.n)) rfl 3 (.string o.cell.text)))
    obtain ⟨wF, hwF⟩ : ∃ W, (((w7.setCell ⟨w.heap.size + 1, 0, none⟩ (.int .i64 (rs.length : Int))).setCell ⟨w.heap.size + 1, 1, none⟩ (.int .i64 o.cell.kind)).setCell ⟨w.heap.size + 1, 2, none⟩ (.int .i64 o.cell.n)).setCell ⟨w.heap.size + 1, 3, none⟩ (.string o.cell.text) = W := ⟨_, rfl⟩
    rw [hwF] at BR FR ⊢
    have q0 : wF.drew.cell? ⟨w.heap.size + 1, 0, none⟩ = some (.int .i64 (rs.length : Int)) := BR.cell 0 rfl
    have q1 : wF.drew.cell? ⟨w.heap.size + 1, 1, none⟩ = some (.int .i64 o.cell.kind) := BR.cell 1 rfl
    have q2 : wF.drew.cell? ⟨w.heap.size + 1, 2, none⟩ = some (.int .i64 o.cell.n) := BR.cell 2 rfl
    have q3 : wF.drew.cell? ⟨w.heap.size + 1, 3, none⟩ = some (.string o.cell.text) := BR.cell 3 rfl
    clear BR hwF d1 y0 y1 y2 z0 z1 z2 z3 f0 f1 f2 f3
    go_wp2
    refine bodyPost_ret (v := .agg #[.int .i64 (rs.length : Int), .int .i64 o.cell.kind, .int .i64 o.cell.n, .string o.cell.text]) (by simp [results, Tryd.results58, go_sem, q0, q1, q2, q3]) rfl ⟨rfl, ?_⟩
    exact rmid_final HR.out HM.out HV.out hcp HA.out FR.out
end Go.Proofs.YtejcbpbhhofhlaaDoor.Tm
