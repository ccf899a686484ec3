/- arena.make: an object behind the others. -/
import Derived.Test.YthgnihckeckaiaaDoorArN
import Derived.RegionTactic
import Derived.Deep.AppendLies
import Derived.Deep.CutBlock
import Derived.Deep.DeepCutAuto
namespace Go.Proofs.YthgnihckeckaiaaDoor.Tm
open Go.RowKit
set_option linter.unusedVariables false
set_option linter.unusedSimpArgs false

theorem sizesF_le {l : List ObjA} : ∀ (ps : List Int) (s : Nat), s ≤ 1025 → sizesF l s ps ≤ 1025
  | [], s, h => h
  | p :: ps, s, h => by
    show sizesF l (min (s + sizeA l p) 1025) ps ≤ 1025
    exact sizesF_le ps _ (Nat.min_le_right _ _)
theorem WfA.size_le {l : List ObjA} (h : WfA l) (x : Int) : sizeA l x ≤ 1025 := by
  unfold sizeA
  split
  · rename_i k e
    split
    · omega
    · have hk := findA_lt e
      have hlt : k.toNat < l.length := by omega
      rw [List.getElem?_eq_getElem hlt]
      simp only [Option.map_some, Option.getD_some]
      rw [(h _ hlt).size]
      exact sizesF_le _ _ (by omega)
  · omega
theorem sizesF_step {l : List ObjA} {ps : List Int} {j : Nat} (h : j < ps.length) : sizesF l 1 (ps.take (j + 1)) = min (sizesF l 1 (ps.take j) + sizeA l ps[j]) 1025 := by
  unfold sizesF
  rw [List.take_succ_eq_append_getElem h, List.foldl_append]
  rfl
/-- What make gives. -/
def Made (w w' : World) (O : Nat → Prop) (ba room : Nat) (l' : List ObjA) : Prop :=
  ∃ O', ArAt w' O' ba room l' ∧ (∀ k, O k → O' k) ∧ (∀ k, O' k → O k ∨ w.heap.size ≤ k) ∧ Fr O w w'
theorem Made.of_below {w w' : World} {O : Nat → Prop} {ba room : Nat} {l : List ObjA} (h : ArAt w O ba room l) (hB : Below w.heap.size w w') : Made w w' O ba room l :=
  ⟨O, h.below hB, fun _ h => h, fun _ h => .inl h, Fr.of_below hB⟩
/-- A block known whole. -/
def BlkIs (w : World) (b : Nat) (cs : Array Value) (t : TypeId) : Prop := w.heap[b]? = some (.cells cs t (0, 0))
theorem BlkIs.lt {w : World} {b : Nat} {cs : Array Value} {t : TypeId} (h : BlkIs w b cs t) : b < w.heap.size := lt_of_block h
theorem BlkIs.cell {w : World} {b : Nat} {cs : Array Value} {t : TypeId} (h : BlkIs w b cs t) (i : Nat) {v : Value} (hv : cs[i]? = some v) : w.cell? ⟨b, i, none⟩ = some v := by
  unfold BlkIs at h
  simp [World.cell?, h, hv]
theorem BlkIs.frozen {w : World} {b : Nat} {cs : Array Value} {t : TypeId} (h : BlkIs w b cs t) (i : Nat) : w.frozen? ⟨b, i, none⟩ = false := by
  unfold BlkIs at h
  simp [World.frozen?, h]
theorem BlkIs.grown {w w' : World} {b : Nat} {cs : Array Value} {t : TypeId} {row : Option Nat} (h : BlkIs w b cs t) (hg : w.grownBy w' row) (hne : row ≠ some b) : BlkIs w' b cs t :=
  (hg.block b h.lt (fun e => hne e.symm)).trans h
theorem BlkIs.below {w w' : World} {b : Nat} {cs : Array Value} {t : TypeId} (h : BlkIs w b cs t) (hB : Below w.heap.size w w') : BlkIs w' b cs t := (hB.block b h.lt).trans h
theorem BlkIs.set {w : World} {b : Nat} {cs : Array Value} {t : TypeId} (h : BlkIs w b cs t) (i : Nat) (v : Value) : BlkIs (w.setCell ⟨b, i, none⟩ v) b (cs.setIfInBounds i v) t := heap_setCell_self h
theorem BlkIs.other {w : World} {b b' : Nat} {cs : Array Value} {t : TypeId} (h : BlkIs w b cs t) (hne : b ≠ b') (i : Nat) (v : Value) : BlkIs (w.setCell ⟨b', i, none⟩ v) b cs t :=
  (Below.heap_setCell _ _ _ _ hne).trans h
theorem row_other {w : World} {base n : Nat} {e : TypeId} {size : Nat} {v : Value} {xs : List Value} (h : w.ownsRow base e size v n xs) {b : Nat} (hne : v.ownBlock ≠ some b) (i : Nat) (u : Value) : (w.setCell ⟨b, i, none⟩ u).ownsRow base e size v n xs :=
  h.kept (grown_setCell w b i u) (.inr hne)
theorem fr_drew {O : Nat → Prop} {a b : World} (h : Fr O a b) : Fr O a b.drew := ⟨h.os, h.tape, h.output, h.size, h.block⟩
theorem fr_set {O : Nat → Prop} {a b : World} (h : Fr O a b) {c : Nat} (hc : O c) (i : Nat) (v : Value) : Fr O a (b.setCell ⟨c, i, none⟩ v) :=
  h.trans (Fr.of_grown (grown_setCell b c i v) (fun k e => by cases e; exact hc))
theorem fr_alloc {O : Nat → Prop} {a b : World} (h : Fr O a b) (o : Obj) : Fr O a (b.alloc o) := h.trans (Fr.of_below (below_one b o))
theorem fr_grown {O : Nat → Prop} {a b c : World} {row : Option Nat} (h : Fr O a b) (hg : b.grownBy c row) (hr : ∀ k, row = some k → O k) : Fr O a c := h.trans (Fr.of_grown hg hr)
theorem fr_below {O : Nat → Prop} {a b c : World} (h : Fr O a b) (hB : Below b.heap.size b c) : Fr O a c := h.trans (Fr.of_below hB)
theorem obj_info : (Tryd.prog.info? 160).map (fun i => (i.zero, i.size, i.bytes)) = some (some (.agg #[.int .i64 0, .int .i64 0, .string ⟨#[]⟩, .slice none 0 0, .int .i64 0]), 5, 64) := by kernel_rfl
theorem base_ok {n : Nat} {w wc : World} (h : n ≤ w.heap.size) (hb : Below w.heap.size w wc) (o : Obj) : n ≤ (wc.alloc o).heap.size := by
  rw [World.size_alloc]
  have := hb.size
  omega
theorem one5 {a b e : Int} {t : ByteArray} {A : Option Addr} {n c : Nat} : ∀ u ∈ ([.int .i64 a, .int .i64 b, .string t, .slice A n c, .int .i64 e] : List Value), u.oneCell' = true := by
  intro u hu
  simp at hu
  rcases hu with rfl | rfl | rfl | rfl | rfl <;> rfl
/-- The world of make when the object has been put behind the others, its word not yet. -/
structure Mid7 (w wx : World) (ba bm : Nat) (room used : Int) (l : List ObjA) (o : ObjA) (vO vW : Value) (vs : List Value) (A5 : Option Addr) (c5 g cap : Nat) : Prop where
  blk : BlkIs wx ba #[.int .i64 room, .int .i64 used, .map (some bm), .slice (some ⟨g, 0, none⟩) (l.length + 1) cap, vW] 100
  box : BlkIs wx w.heap.size #[.int .i64 o.cell.kind, .int .i64 o.cell.n, .string o.cell.text] 40
  map : wx.heap[bm]? = some (.map (entsA (l ++ [o])) (l ++ [o]).length)
  ro : wx.ownsRow 3 160 5 (.slice (some ⟨g, 0, none⟩) (l.length + 1) cap) (l.length + 1) (encOs (l ++ [o]) (vs ++ [.slice A5 o.parts.length c5]))
  rw : wx.ownsRow 3 27 1 vW l.length (encW (wordsA 0 l))
  part : wx.ownsRow w.heap.size 27 1 (.slice A5 o.parts.length c5) o.parts.length (encW o.parts)
  fr : Fr (fun k => k = ba ∨ k = bm ∨ vO.ownBlock = some k ∨ vW.ownBlock = some k) w wx
  at_ : vO.ownBlock = some g ∨ w.heap.size ≤ g
  pg : ∀ b, (Value.slice A5 o.parts.length c5).ownBlock = some b → b ≠ g
theorem TabsA.fr {O : Nat → Prop} {a b : World} (h : TabsA a) (hf : Fr O a b) (hO : ∀ k, O k → 3 ≤ k) : TabsA b := by
  refine ⟨⟨fun c hc => hf.cell (h.utf.1 c hc) ?_, fun c hc => ⟨hf.cell (h.utf.2 c hc).1 ?_, hf.cell (h.utf.2 c hc).2 ?_⟩⟩, fun k hk => hf.cell (h.plain k hk) ?_⟩
  all_goals
    intro e
    have h3 := hO _ e
    simp at h3
theorem word_info : (Tryd.prog.info? 27).map (fun i => (i.zero, i.size, i.bytes)) = some (some (.int .u64 0), 1, 8) := by kernel_rfl
structure PartsOk (l : List ObjA) (parts : List Int) : Prop where
  ok : ∀ p ∈ parts, (findA l p).isSome = true ∧ 0 ≤ p ∧ p < 18446744073709551616
theorem row_cap63 {w : World} {base n cap : Nat} {e : TypeId} {size : Nat} {A : Option Addr} {xs : List Value} (h : w.ownsRow base e size (.slice A n cap) n xs) : n ≤ cap := row_cap h
theorem mid_final {w w7 w8 wc : World} {O : Nat → Prop} {ba bm room : Nat} {l : List ObjA} {o : ObjA} {vO vW : Value} {vs : List Value} {A5 : Option Addr} {c5 g cap g2 cap2 : Nat}
    (hR : ArRep w O ba room l bm vO vW vs) (hM : Mid7 w w7 ba bm (room : Int) (usedA l : Int) l o vO vW vs A5 c5 g cap) (hok : OkObj l o) (hu : usedA l + costC o.cell ≤ room)
    (hgrow : (w7.alloc (.cells #[.int .u64 (wordAt o.cell (usedA l))] 27)).grownBy w8 vW.ownBlock)
    (hown : w8.ownsRow 3 27 1 (.slice (some ⟨g2, 0, none⟩) (l.length + 1) cap2) (l.length + 1) (encW (wordsA 0 l) ++ [.int .u64 (wordAt o.cell (usedA l))]))
    (hat : vW.ownBlock = some g2 ∨ g2 = w7.heap.size + 1) (hlt : g2 < w8.heap.size)
    (hbc : Below (w8.setCell ⟨ba, 4, none⟩ (.slice (some ⟨g2, 0, none⟩) (l.length + 1) cap2)).heap.size (w8.setCell ⟨ba, 4, none⟩ (.slice (some ⟨g2, 0, none⟩) (l.length + 1) cap2)) wc) :
    Made w (wc.setCell ⟨ba, 1, none⟩ (.int .i64 ((usedA l : Int) + (costC o.cell : Int)))) O ba room (l ++ [o]) := by
  have hba := (hR.lim _ hR.oba).2
  have hbm := (hR.lim _ hR.obm).2
  have hOlt : ∀ k, vO.ownBlock = some k → k < w.heap.size := fun k hk => (hR.lim _ (hR.oO k hk).1).2
  have hWlt : ∀ k, vW.ownBlock = some k → k < w.heap.size := fun k hk => (hR.lim _ (hR.oW k hk).1).2
  have hs7 := hM.fr.size
  have hs8 : w7.heap.size + 1 ≤ w8.heap.size := by have := hgrow.size; rw [World.size_alloc] at this; exact this
  have hsc : w8.heap.size ≤ wc.heap.size := by have := hbc.size; simpa [World.setCell] using this
  have hsf : (wc.setCell ⟨ba, 1, none⟩ (.int .i64 ((usedA l : Int) + (costC o.cell : Int)))).heap.size = wc.heap.size := by simp [World.setCell]
  have hg7 : g < w7.heap.size := by
    rcases hM.ro.2 with ⟨h, _⟩ | ⟨g', _, _, h, _, hh, _⟩
    · cases h
    · cases h; exact lt_of_block hh
  have hga : g ≠ ba := by
    intro e
    rcases hM.at_ with h | h
    · exact (hR.oO _ h).2.1 e
    · omega
  have hg2a : g2 ≠ ba := by
    intro e
    rcases hat with h | h
    · exact (hR.oW _ h).2 e
    · omega
  have hgg : g ≠ g2 := by
    intro e
    rcases hat with h | h
    · rcases hM.at_ with h' | h'
      · exact (hR.oO _ h').2.2 (by rw [h, e])
      · have := hWlt _ h; omega
    · omega
  have hWg : vW.ownBlock ≠ some g := by
    intro e
    rcases hM.at_ with h | h
    · exact (hR.oO _ h).2.2 e
    · have := hWlt _ e; omega
  have hWb : vW.ownBlock ≠ some ba := fun e => (hR.oW _ e).2 rfl
  -- the blocks of w7 that the rest does not write
  have keep : ∀ k, k < w7.heap.size → k ≠ ba → vW.ownBlock ≠ some k → (wc.setCell ⟨ba, 1, none⟩ (.int .i64 ((usedA l : Int) + (costC o.cell : Int)))).heap[k]? = w7.heap[k]? := fun k hk h1 h2 => by
    rw [Below.heap_setCell _ _ _ _ h1, hbc.block k (by simp only [World.setCell, Array.size_modify]; omega), Below.heap_setCell _ _ _ _ h1, hgrow.block k (by rw [World.size_alloc]; omega) (fun e => h2 e.symm), Below.heap_alloc _ _ _ hk]
  have hbma : bm ≠ ba := fun e => by have h1 := hR.blk; have h2 := hR.map; rw [e, h1] at h2; cases h2
  have notm : vW.ownBlock ≠ some bm := fun hk => by
    rcases hR.rw.2 with ⟨rfl, _⟩ | ⟨q, _, _, rfl, _, hh, _⟩
    · cases hk
    · have : q = bm := by simpa [Value.ownBlock] using hk
      have hmm := hR.map
      rw [this, hmm] at hh
      cases hh
  have B7 := hM.blk.below (below_one w7 (.cells #[.int .u64 (wordAt o.cell (usedA l))] 27))
  have B8 := B7.grown hgrow hWb
  have B9 := B8.set 4 (.slice (some ⟨g2, 0, none⟩) (l.length + 1) cap2)
  have B10 := (B9.below hbc).set 1 (.int .i64 ((usedA l : Int) + (costC o.cell : Int)))
  have hpb := row_base hM.part
  have hpl := row_lt hM.part
  refine ⟨fun k => O k ∨ k = g ∨ k = g2 ∨ (Value.slice A5 o.parts.length c5).ownBlock = some k, ⟨bm, .slice (some ⟨g, 0, none⟩) (l.length + 1) cap, .slice (some ⟨g2, 0, none⟩) (l.length + 1) cap2, vs ++ [.slice A5 o.parts.length c5], ?_⟩, fun k h => .inl h, ?_, ?_⟩
  · refine { blk := ?_, map := ?_, ro := ?_, rw := ?_, vl := ?_, ps := ?_, oba := Or.inl hR.oba, obm := Or.inl hR.obm, oO := ?_, oW := ?_, lim := ?_, wf := hR.wf.snoc hok, room_le := hR.room_le, used_le := ?_ }
    · rw [usedA_snoc]
      have := B10
      simpa [BlkIs] using this
    · rw [keep bm (by omega) hbma notm]
      exact hM.map
    · rw [List.length_append, List.length_singleton]
      exact row_of_block hM.ro fun k hk => by
        have : g = k := by simpa [Value.ownBlock] using hk
        subst this
        exact keep g hg7 hga hWg
    · have e : encW (wordsA 0 l) ++ [.int .u64 (wordAt o.cell (usedA l))] = encW (wordsA 0 (l ++ [o])) := by rw [wordsA_snoc, Nat.zero_add]; simp [encW]
      rw [List.length_append, List.length_singleton, ← e]
      exact row_of_block hown fun k hk => by
        have : g2 = k := by simpa [Value.ownBlock] using hk
        subst this
        rw [Below.heap_setCell _ _ _ _ hg2a, hbc.block g2 (by simp only [World.setCell, Array.size_modify]; omega), Below.heap_setCell _ _ _ _ hg2a]
    · simp [hR.vl]
    · intro i h1 h2
      by_cases hi : i < l.length
      · rw [List.getElem_append_left (by rw [hR.vl]; exact hi), List.getElem_append_left hi]
        obtain ⟨A, c, e1, e2, e3, e4⟩ := hR.ps i hi (by rw [hR.vl]; exact hi)
        have hq : ∀ b q, A = some ⟨b, q, none⟩ → O b ∧ b < w.heap.size ∧ b ≠ ba ∧ vO.ownBlock ≠ some b ∧ vW.ownBlock ≠ some b := fun b q e => by
          obtain ⟨h1, h2⟩ := e4 b q e
          exact ⟨h1, (hR.lim _ h1).2, fun e => h2 (.inl e), fun e => h2 (.inr (.inl e)), fun e => h2 (.inr (.inr e))⟩
        refine ⟨A, c, e1, e2, fun j hj => ?_, fun b q e => ?_⟩
        · obtain ⟨b, q, e, hc⟩ := e3 j hj
          obtain ⟨q1, q2, q3, q4, q5⟩ := hq b q e
          have hbm' : b ≠ bm := fun e => by
            subst e
            unfold World.cell? at hc
            rw [hR.map] at hc
            cases hc
          refine ⟨b, q, e, (cell_of_same (a := ⟨b, _, none⟩) ((keep b (by omega) q3 q5).trans (hM.fr.block b q2 (fun h => ?_)))).trans hc⟩
          rcases h with h | h | h | h
          · exact q3 h
          · exact hbm' h
          · exact q4 h
          · exact q5 h
        · obtain ⟨q1, q2, q3, q4, q5⟩ := hq b q e
          refine ⟨.inl q1, fun h => ?_⟩
          rcases h with h | h | h
          · exact q3 h
          · have : g = b := by simpa [Value.ownBlock] using h
            rcases hM.at_ with h' | h'
            · exact q4 (by rw [h', this])
            · omega
          · have : g2 = b := by simpa [Value.ownBlock] using h
            rcases hat with h' | h'
            · exact q5 (by rw [h', this])
            · omega
      · have hi' : i = l.length := by simp at h1; omega
        subst hi'
        rw [List.getElem_append_right (by rw [hR.vl]; exact Nat.le_refl _), List.getElem_append_right (Nat.le_refl _)]
        simp only [hR.vl, Nat.sub_self, List.getElem_cons_zero]
        have hpart : (wc.setCell ⟨ba, 1, none⟩ (.int .i64 ((usedA l : Int) + (costC o.cell : Int)))).ownsRow w.heap.size 27 1 (.slice A5 o.parts.length c5) o.parts.length (encW o.parts) :=
          row_of_block hM.part fun k hk => keep k (hpl k hk) (by have := hpb k hk; omega) (fun e => by have := hpb k hk; have := hWlt k e; omega)
        refine ⟨A5, c5, rfl, row_cap63 hM.part, WReads.of_row hpart, fun b q e => ?_⟩
        subst e
        refine ⟨.inr (.inr (.inr rfl)), fun h => ?_⟩
        have hb1 := hpb b rfl
        have hb2 := hpl b rfl
        rcases h with h | h | h
        · omega
        · exact hM.pg b rfl (by simpa [Value.ownBlock] using h.symm)
        · have : g2 = b := by simpa [Value.ownBlock] using h
          rcases hat with h' | h'
          · have := hWlt _ h'; omega
          · omega
    · intro k hk
      have : g = k := by simpa [Value.ownBlock] using hk
      subst this
      exact ⟨.inr (.inl rfl), hga, fun e => hgg (by simpa [Value.ownBlock] using e.symm)⟩
    · intro k hk
      have : g2 = k := by simpa [Value.ownBlock] using hk
      subst this
      exact ⟨.inr (.inr (.inl rfl)), hg2a⟩
    · intro k hk
      rw [hsf]
      have h3 : 3 ≤ w.heap.size := by have := (hR.lim _ hR.oba); omega
      rcases hk with hk | hk | hk | hk
      · have := hR.lim k hk; omega
      · subst hk
        rcases hM.at_ with h | h
        · have := hR.lim _ (hR.oO _ h).1; omega
        · omega
      · subst hk
        rcases hat with h | h
        · have := hR.lim _ (hR.oW _ h).1; omega
        · omega
      · have := hpb k hk; have := hpl k hk; omega
    · rw [usedA_snoc]; exact hu
  · intro k hk
    rcases hk with hk | hk | hk | hk
    · exact .inl hk
    · subst hk
      rcases hM.at_ with h | h
      · exact .inl (hR.oO _ h).1
      · exact .inr h
    · subst hk
      rcases hat with h | h
      · exact .inl (hR.oW _ h).1
      · right; omega
    · exact .inr (hpb k hk)
  · have F7 : Fr O w w7 := hM.fr.mono fun k _ h => by
      rcases h with h | h | h | h
      · rw [h]; exact hR.oba
      · rw [h]; exact hR.obm
      · exact (hR.oO _ h).1
      · exact (hR.oW _ h).1
    exact fr_set (fr_below (fr_set (fr_grown (fr_alloc F7 _) hgrow (fun k e => (hR.oW _ e).1)) hR.oba _ _) hbc) hR.oba _ _
set_option maxRecDepth 10000 in
set_option maxHeartbeats 4000000 in
theorem make_big (w : World) (O : Nat → Prop) (ba room : Nat) (l : List ObjA) (c : CellD) (parts : List Int) (A : Option Addr) (cp : Nat) (h : ArAt w O ba room l) (hT : TabsA w) (hc : WfC c) (he : cellE c = 0) (hs : ¬ SmallC c)
    (hr : WReads w A parts) (hk : parts.length = kidsD c) (hp : PartsOk l parts) (hu : usedA l + costC c ≤ room) :
    Calls Tryd.prog 59 #[.pointer (some ⟨ba, 0, none⟩), .agg #[.int .i64 c.kind, .int .i64 c.n, .string c.text], .slice A parts.length cp] w fun e w' => e = .returned (.int .u64 (wordAt c (usedA l))) ∧ Made w w' O ba room (l ++ [⟨c, parts, sizesA l parts⟩]) := by
  have hlims := h.lims
  have hcp := cost_pos he hs
  have hB0 := below_one w (.cells #[.int .i64 c.kind, .int .i64 c.n, .string c.text] 40)
  have e6 : (c.kind == 6) = false := beq_eq_false_iff_ne.2 (fun e => hs (.inl e))
  have hof := fun w => wofint_any c.n w hc.n0 hc.n1
  have hofb := fun w => wofbox_any (usedA l : Int) w (by omega) (by omega)
  have hofc := fun w => wofcons_any (usedA l : Int) w (by omega) (by omega)
  obtain ⟨bm, vO, vW, vs, hR0⟩ := h
  obtain ⟨c0, c1, c2, c3, c4⟩ := hR0.cells
  have c1A := cell_below hB0 c1
  have HR0 := Lib.hid hR0
  have HT := Lib.hid hT
  have HC := Lib.hid hc
  have HE := Lib.hid he
  have HS := Lib.hid hs
  have HR := Lib.hid hr
  have HK := Lib.hid hk
  have HP := Lib.hid hp
  have HB0 := Lib.hid hB0
  have hf1 : c.kind = 1 → ¬ smallI c.n := fun e1 e2 => hs (.inr ⟨e1, e2⟩)
  clear c0 c1 c2 c3 c4 hR0 hT hc he hs hr hk hp hB0
  go_enter Tryd.func59, Tryd.ntmps59
  go_upto_block 0 with (fail)
  go_cut [] (fun wx => wx = w.alloc (.cells #[.int .i64 c.kind, .int .i64 c.n, .string c.text] 40))
  case first =>
    by_cases h1 : c.kind = 1
    · have hsn := hf1 h1
      simp only [if_neg hsn] at hof
      have e1 : (c.kind == 1) = true := by rw [h1]; rfl
      clear h1 hf1 hsn
      go_wp2_with fail
      refine (hof _).mono ?_
      rintro e w' ⟨rfl, rfl⟩
      go_wp2_with fail
      go_meet
      rfl
    · have e1 : (c.kind == 1) = false := beq_eq_false_iff_ne.2 h1
      clear h1 hf1 hof
      go_wp2_with fail
      go_meet
      rfl
  case rest =>
    subst hcut
    go_wp2_with fail
    refine (hofb _).mono ?_
    rintro e w' ⟨rfl, rfl⟩
    go_upto_if 41 with (fail)
    go_cut [10] (fun s10 wx => s10 = .int .u64 (wordAt c (usedA l)) ∧ wx = w.alloc (.cells #[.int .i64 c.kind, .int .i64 c.n, .string c.text] 40))
    case first =>
      by_cases h7 : c.kind = 7
      · have e7 : (c.kind == 7) = true := by rw [h7]; rfl
        have H7 := Lib.hid h7
        clear h7 hf1 hof hofb
        go_wp2_with fail
        refine (hofc _).mono ?_
        rintro e w' ⟨rfl, rfl⟩
        go_wp2_with fail
        go_meet
        exact ⟨by unfold wordAt; rw [if_pos H7.out], rfl⟩
      · have e7 : (c.kind == 7) = false := beq_eq_false_iff_ne.2 h7
        have H7 := Lib.hid h7
        clear h7 hf1 hof hofb
        go_wp2_with fail
        go_meet
        exact ⟨by unfold wordAt; rw [if_neg H7.out], rfl⟩
    case rest =>
      obtain ⟨rfl, rfl⟩ := hcut
      obtain ⟨wd, hwd⟩ : ∃ wd, wordAt c (usedA l) = wd := ⟨_, rfl⟩
      rw [hwd]
      obtain ⟨wA, hwA⟩ : ∃ wA, w.alloc (.cells #[.int .i64 c.kind, .int .i64 c.n, .string c.text] 40) = wA := ⟨_, rfl⟩
      have HBX := Lib.hid (show wA.heap[w.heap.size]? = some (.cells #[.int .i64 c.kind, .int .i64 c.n, .string c.text] 40 (0, 0)) from hwA ▸ heap_new w _)
      have HB1 : Hid (Below w.heap.size w wA) := Lib.hid (hwA ▸ HB0.out)
      rw [hwA]
      have HWD := Lib.hid hwd
      have hplen : parts.length ≤ 255 := HK.out ▸ kidsD_le c
      clear HB0 hof hofb hofc hf1 c1A e6 hwd
      go_wp2_with fail
      go_loopw [12, 52] (fun s i wr => ∃ j : Nat, j ≤ parts.length ∧ s = .int .i64 (sizesF l 1 (parts.take j) : Int) ∧ i = .int .i64 (j : Int) ∧ Hid (Below wA.heap.size wA wr)) (fun s i wr => parts.length - (intOf i).toNat)
      case atStart => exact ⟨0, Nat.zero_le _, rfl, rfl, Lib.hid (Below.refl _ _)⟩
      case round =>
        obtain ⟨j, hj, rfl, rfl, hB⟩ := hrel
        have hB2 := below_then HB1.out hB.out
        by_cases hlt : j < parts.length
        · obtain ⟨b, o, rfl, hc⟩ := HR.out j hlt
          have hc' := cell_below hB2 hc
          have hpj := HP.out.ok parts[j] (List.getElem_mem _)
          obtain ⟨k, hk⟩ := Option.isSome_iff_exists.1 hpj.1
          have hAr : ArAt wr O ba room l := ArAt.below ⟨bm, vO, vW, vs, HR0.out⟩ hB2
          have hs1 := sizesF_le (l := l) (parts.take j) 1 (by omega)
          have hs2 := HR0.out.wf.size_le parts[j]
          have hst := Lib.hid (sizesF_step (l := l) hlt)
          generalize sizesF l 1 (parts.take j) = S0 at *
          clear hc
          go_wp2_with fail
          refine (asize_any _ O ba room l parts[j] k hpj.2.1 hpj.2.2 hAr hk).mono ?_
          rintro e w' ⟨rfl, hb⟩
          have hB3 := Lib.hid (below_then hB.out hb)
          generalize sizeA l parts[j] = S1 at *
          go_wp2
          go_roundw
          case rel => exact ⟨j + 1, by omega, by rw [hst.out]; go_num, by go_num, hB3⟩
          case measure => simp [intOf]; omega
        · obtain rfl : j = parts.length := by omega
          rw [List.take_length]
          obtain ⟨AO, cO, hvO⟩ := row_slice HR0.out.ro
          have hR1 := HR0.out.same hB2.size fun k hk => hB2.block k (HR0.out.lim k hk).2
          obtain ⟨c0, c1, c2, c3, c4⟩ := hR1.cells
          rw [hvO] at c3
          have HO := Lib.hid hvO
          have HR1 := Lib.hid hR1
          have hlen := HR0.out.wf.len
          have hfree := Lib.hid (idx_free (w := wr) (O := O) (ba := ba) (room := room) ⟨bm, vO, vW, vs, hR1⟩)
          obtain ⟨w5, hrun, hm5, hg5⟩ := run_put wr.drew bm l ⟨c, parts, sizesA l parts⟩ hR1.map hfree.out
          clear hR1 hvO c0 c4
          go_wp2_with fail
          go_region
          have hbgb : ba < w.heap.size := (HR0.out.lim _ HR0.out.oba).2
          have hbm' : bm < w.heap.size := (HR0.out.lim _ HR0.out.obm).2
          have hbab : bm ≠ ba := fun e => by have h1 := HR1.out.blk; have h2 := HR1.out.map; rw [e] at h2; rw [h1] at h2; cases h2
          have B5 := Lib.hid ((show BlkIs wr.drew ba _ _ from HR1.out.blk).grown hg5 (by simpa using hbab))
          have X5 := Lib.hid ((show BlkIs wr.drew w.heap.size _ _ from (hB.out.block _ (lt_of_block HBX.out)).trans HBX.out).grown hg5 (by simp; omega))
          have notm : ∀ {e : TypeId} {z n : Nat} {v : Value} {xs : List Value}, wr.ownsRow 3 e z v n xs → v.ownBlock ≠ some bm := fun hro hk => by
            rcases hro.2 with ⟨rfl, _⟩ | ⟨g, cap, cur, rfl, _, hh, _⟩
            · cases hk
            · have : g = bm := by simpa [Value.ownBlock] using hk
              have hmm := HR1.out.map
              rw [this, hmm] at hh
              cases hh
          have RO5 := Lib.hid ((show wr.drew.ownsRow 3 _ 5 vO _ _ from HR1.out.ro).kept hg5 (.inr (notm HR1.out.ro)))
          have RW5 := Lib.hid ((show wr.drew.ownsRow 3 _ 1 vW _ _ from HR1.out.rw).kept hg5 (.inr (notm HR1.out.rw)))
          have WR5 := Lib.hid (show WReads w5 A parts from fun j hj => by
            obtain ⟨b, o, e, hc⟩ := HR.out.below hB2 j hj
            refine ⟨b, o, e, (cell_of_same (a := ⟨b, _, none⟩) (hg5.block b (cell_lt hc) ?_)).trans hc⟩
            intro e'
            have : b = bm := by simpa using e'
            have hmm := HR1.out.map
            subst this
            unfold World.cell? at hc
            rw [hmm] at hc
            cases hc)
          have F5 := Lib.hid (show Fr (fun k => k = ba ∨ k = bm ∨ vO.ownBlock = some k ∨ vW.ownBlock = some k) w w5 from fr_grown (fr_drew (Fr.of_below hB2)) hg5 (fun k e => .inr (.inl (by simpa using e.symm))))
          have hnbO : vO.ownBlock ≠ some ba := fun e => (HR0.out.oO _ e).2.1 rfl
          have hnbW : vW.ownBlock ≠ some ba := fun e => (HR0.out.oW _ e).2 rfl
          have hnmO : vO.ownBlock ≠ some bm := notm HR1.out.ro
          have hnmW : vW.ownBlock ≠ some bm := notm HR1.out.rw
          have hOlt : ∀ k, vO.ownBlock = some k → k < w.heap.size := fun k hk => (HR0.out.lim _ (HR0.out.oO k hk).1).2
          have hWlt : ∀ k, vW.ownBlock = some k → k < w.heap.size := fun k hk => (HR0.out.lim _ (HR0.out.oW k hk).1).2
          have hWO : vW.ownBlock = none ∨ vW.ownBlock ≠ vO.ownBlock := by
            cases hv : vW.ownBlock with
            | none => exact .inl rfl
            | some k => exact .inr (fun e => (HR0.out.oO k e.symm).2.2 hv)
          have H5 := Lib.hid hm5
          clear hrun hg5 c1 c2 c3 hB hB2 notm hm5
          rw [HO.out] at RO5
          have hnbO' : (Value.slice AO l.length cO).ownBlock ≠ some ba := by rw [← HO.out]; exact hnbO
          have c3 := B5.out.cell 3 (v := .slice AO l.length cO) (by rw [← HO.out]; rfl)
          have x0 := X5.out.cell 0 rfl
          have x1 := X5.out.cell 1 rfl
          have x2 := X5.out.cell 2 rfl
          obtain ⟨i0, hi, hz0, hz1, hz2⟩ := info_parts obj_info
          have hsz := sizesF_le (l := l) parts 1 (by omega)
          generalize hS0 : sizesF l 1 parts = S0 at *
          have HS0 := Lib.hid hS0
          clear hS0
          go_wp2_with fail
          have hb3 : 3 ≤ w.heap.size := by have := HR0.out.lim _ HR0.out.oba; omega
          have hA3 : 3 ≤ w5.drew.heap.size := Nat.le_trans hb3 F5.out.size
          have hA1 : l.length + 1 ≤ maxLen := by unfold maxLen; omega
          have hA2 : (l.length + 1) * 64 ≤ 140737488355328 := by omega
          go_cut [] (fun wx => ∃ A5 c5 g cap, Hid (Mid7 w wx ba bm room (usedA l) l ⟨c, parts, S0⟩ vO vW vs A5 c5 g cap))
          case first =>
            go_region_law (first
              | (refine step_append_lies _ (by rfl) _ _ _ (by rfl) 3 160 i0 _ 5 64 Tryd.underlying98 hi hz0 hz1 hz2 rfl (by omega) (.slice AO l.length cO) l.length (encOs l vs) (by rfl) ((row_below RO5.out (below_then ((Below.refl _ _).drew) hbc)).alloc _) ⟨wc.heap.size, 0, none⟩ 1 1 [.int .i64 c.kind, .int .i64 c.n, .string c.text, .slice A5 parts.length c5, .int .i64 (S0 : Int)] (by rfl) (by rfl) (World.news_of_block (cs := #[.int .i64 c.kind, .int .i64 c.n, .string c.text, .slice A5 parts.length c5, .int .i64 (S0 : Int)]) (t := 160) (fr := (0, 0)) (heap_alloc_new wc _)) one5 (by omega) hA1 hA2 (base_ok hA3 hbc _) (wc.heap.size + 1) (World.size_alloc _ _) ?_; intro g cap w6 hown6 hgrow6 hat6 hlt6; have B6 := Lib.hid (((B5.out.below (below_then ((Below.refl _ _).drew) hbc)).below (below_one wc (.cells #[.int .i64 c.kind, .int .i64 c.n, .string c.text, .slice A5 parts.length c5, .int .i64 (S0 : Int)] 160))).grown hgrow6 hnbO'); have t5 := B6.out.cell 3 (v := .slice AO l.length cO) (by rw [← HO.out]; rfl); have t6 := B6.out.frozen 3)
              | (go_simp; go_at_call 106; refine (wclone_any parts A cp _ (WR5.out.below ((Below.refl _ _).drew)) (by omega)).mono ?_; rintro e wc ⟨A5, c5, rfl, hown5, hbc⟩; have t3 := cell_below hbc c3; have t0 := cell_below hbc x0; have t1 := cell_below hbc x1; have t2 := cell_below hbc x2; have t4 := cell_below (below_one wc (.cells #[.int .i64 c.kind, .int .i64 c.n, .string c.text, .slice A5 parts.length c5, .int .i64 (S0 : Int)] 160)) t3))
            all_goals go_wp2_with fail
            all_goals go_meet
            all_goals
              have hbw : Below w5.heap.size w5 wc := below_then ((Below.refl _ _).drew) hbc
              have hbx := below_alloc' hbw (.cells #[.int .i64 c.kind, .int .i64 c.n, .string c.text, .slice A5 parts.length c5, .int .i64 (S0 : Int)] 160)
              have hs5 := F5.out.size
              have hsc := hbw.size
              rw [← HO.out] at hgrow6 hat6
              have hga : ba ≠ g := fun e => by
                rcases hat6 with h | h
                · exact hnbO (by rw [h, e])
                · omega
              have hgm : bm ≠ g := fun e => by
                rcases hat6 with h | h
                · exact hnmO (by rw [h, e])
                · omega
              have hro : w6.ownsRow 3 160 5 (.slice (some ⟨g, 0, none⟩) (l.length + 1) cap) (l.length + 1) (encOs (l ++ [⟨c, parts, S0⟩]) (vs ++ [.slice A5 parts.length c5])) := by
                rw [encOs_snoc _ _ _ _ HR0.out.vl]; exact hown6
              have hpl := row_lt hown5
              have hpb := row_base hown5
              have hdr : w5.drew.heap.size = w5.heap.size := rfl
              refine ⟨A5, c5, g, cap, {
                blk := by have := B6.out.set 3 (.slice (some ⟨g, 0, none⟩) (l.length + 1) cap); simpa using this
                box := (((X5.out.below hbx).grown hgrow6 (fun e => by have := hOlt _ e; omega)).other (by omega) _ _)
                map := ?m1
                ro := row_other hro (fun e => hga (by simpa [Value.ownBlock] using e.symm)) _ _
                rw := row_other ((row_below RW5.out hbx).kept hgrow6 hWO) hnbW _ _
                part := row_other ((row_mono (hown5.alloc _) (by omega)).kept hgrow6 ?p1) ?p2 _ _
                fr := fr_set (fr_grown (fr_below F5.out hbx) hgrow6 (fun k e => .inr (.inr (.inl e)))) (.inl rfl) _ _
                at_ := hat6.imp id (fun e => by omega)
                pg := ?p3 }⟩
              case m1 =>
                rw [Below.heap_setCell _ _ _ _ (by exact hbab), hgrow6.block bm (by have := hbx.size; omega) (fun e => hnmO e.symm), hbx.block bm (by omega)]
                have := H5.out
                unfold sizesA at this
                rw [HS0.out] at this
                exact this
              case p1 =>
                cases hv : (Value.slice A5 parts.length c5).ownBlock with
                | none => exact .inl rfl
                | some k => exact .inr (fun e => by have := hpb k hv; have := hOlt k e.symm; omega)
              case p2 => exact fun e => by have := hpb _ e; omega
              case p3 =>
                intro b hb e
                have h1 := hpb b hb
                have h2 := hpl b hb
                rcases hat6 with h | h
                · have := hOlt g h; omega
                · omega
          case rest =>
            obtain ⟨A5, c5, g, cap, HM7⟩ := hcut
            clear X5 B5 RO5 RW5 WR5 F5 H5 x0 x1 x2 c3 hi hz0 hz1 hz2 i0 hA3 hnbO' HB1 hfree HR1 wr w5
            obtain ⟨w7, hw7⟩ : ∃ W, W = wc := ⟨_, rfl⟩
            subst hw7
            obtain ⟨AW, cW, hvW⟩ := row_slice HM7.out.rw
            have HW := Lib.hid hvW
            have RW7 := Lib.hid (hvW ▸ HM7.out.rw)
            have hnbW' : (Value.slice AW l.length cW).ownBlock ≠ some ba := by rw [← HW.out]; exact hnbW
            clear hvW
            have d4 := HM7.out.blk.cell 4 (v := .slice AW l.length cW) (by rw [← HW.out]; rfl)
            obtain ⟨j0, ji, jz0, jz1, jz2⟩ := info_parts word_info
            have hA4 : 3 ≤ w7.heap.size := Nat.le_trans hb3 HM7.out.fr.size
            have hA5 : (l.length + 1) * 8 ≤ 140737488355328 := by omega
            go_wp2_with (at_builtin
                         refine wpList_append_lies _ rfl _ _ _ rfl 3 27 j0 _ 1 8 Tryd.underlying31 ji jz0 jz1 jz2 rfl (by omega) (.slice AW l.length cW) l.length (encW (wordsA 0 l)) rfl (RW7.out.alloc _) ⟨w7.heap.size, 0, none⟩ 1 1 [.int .u64 wd] rfl rfl (World.news_of_block (cs := #[.int .u64 wd]) (t := 27) (fr := (0, 0)) (heap_alloc_new w7 _)) (by simp [Value.oneCell']) (by omega) hA1 hA5 (base_ok hA4 (Below.refl _ _) _) (w7.heap.size + 1) (World.size_alloc _ _) ?_
                         intro g2 cap2 w8 hown8 hgrow8 hat8 hlt8
                         have B8 := Lib.hid ((HM7.out.blk.below (below_one w7 (.cells #[.int .u64 wd] 27))).grown hgrow8 hnbW')
                         have t5 := B8.out.cell 4 (v := .slice AW l.length cW) (by rw [← HW.out]; rfl)
                         have t6 := B8.out.frozen 4)
            have hfr9 := Lib.hid (fr_set (fr_grown (fr_alloc HM7.out.fr (.cells #[.int .u64 wd] 27)) (by rw [← HW.out] at hgrow8; exact hgrow8) (fun k e => .inr (.inr (.inr e)))) (.inl rfl) 4 (.slice (some ⟨g2, 0, none⟩) (l.length + 1) cap2))
            have hT9 := Lib.hid (HT.out.fr hfr9.out (fun k h => by
              rcases h with h | h | h | h
              · rw [h]; exact (HR0.out.lim _ HR0.out.oba).1
              · rw [h]; exact (HR0.out.lim _ HR0.out.obm).1
              · exact (HR0.out.lim _ (HR0.out.oO _ h).1).1
              · exact (HR0.out.lim _ (HR0.out.oW _ h).1).1))
            have B9 := Lib.hid (B8.out.set 4 (.slice (some ⟨g2, 0, none⟩) (l.length + 1) cap2))
            have X9 := Lib.hid (((HM7.out.box.below (below_one w7 (.cells #[.int .u64 wd] 27))).grown hgrow8 (by rw [← HW.out]; exact fun e => by have := hWlt _ e; omega)).other (b' := ba) (show w.heap.size ≠ ba by omega) 4 (.slice (some ⟨g2, 0, none⟩) (l.length + 1) cap2))
            rw [← HW.out] at hgrow8 hat8
            have G8 := Lib.hid hgrow8
            have A8 := Lib.hid hat8
            have OW8 := Lib.hid hown8
            have L8 := Lib.hid hlt8
            obtain ⟨w9, hw9⟩ : ∃ W, W = w8.setCell ⟨ba, 4, none⟩ (.slice (some ⟨g2, 0, none⟩) (l.length + 1) cap2) := ⟨_, rfl⟩
            rw [← hw9] at hT9 B9 X9 hfr9 ⊢
            have E9 := Lib.hid hw9
            have q1 := B9.out.cell 1 (v := .int .i64 (usedA l : Int)) (by rfl)
            have x0 := X9.out.cell 0 (v := .int .i64 c.kind) rfl
            have x1 := X9.out.cell 1 (v := .int .i64 c.n) rfl
            have x2 := X9.out.cell 2 (v := .string c.text) rfl
            clear hown8 hgrow8 hat8 hlt8 t5 t6 d4 hw9
            have hcc : costC c ≤ room := by omega
            go_region_law (go_simp; go_at_call 58; refine (cost_any c _ (hT9.out.below ((Below.refl _ _).drew)) HC.out HE.out).mono ?_; rintro e wc ⟨rfl, hbc⟩; have BC := Lib.hid (B9.out.below (below_then ((Below.refl _ _).drew) hbc)); have r1 := BC.out.cell 1 (v := .int .i64 (usedA l : Int)) (by rfl); have r2 := BC.out.frozen 1; have r3 := cell_below hbc x0; have r4 := cell_below hbc x1; have r5 := cell_below hbc x2)
            all_goals go_wp2
            all_goals
              go_ret
              refine ⟨by rw [HWD.out]; rfl, ?_⟩
              have hwd2 : wd = wordAt c (usedA l) := HWD.out.symm
              have hbc2 : Below w9.heap.size w9 wc := below_then ((Below.refl _ _).drew) hbc
              rw [E9.out] at hbc2
              have HF := mid_final (o := ⟨c, parts, S0⟩) HR0.out HM7.out ⟨HE.out, HS.out, HK.out, HP.out.ok, by rw [← HS0.out]; rfl⟩ hu (hwd2 ▸ G8.out) (hwd2 ▸ OW8.out) A8.out L8.out hbc2
              rw [← HS0.out] at HF
              rw [show IntKind.i64.wrap ((usedA l : Int) + (costC c : Int)) = (usedA l : Int) + (costC c : Int) by simp [IntKind.wrap, IntKind.signed, IntKind.bits]; omega]
              exact HF
end Go.Proofs.YthgnihckeckaiaaDoor.Tm
