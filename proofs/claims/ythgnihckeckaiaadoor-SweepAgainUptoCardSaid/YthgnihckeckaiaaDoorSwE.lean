/- Sweep's Collect. -/
import Derived.Test.YthgnihckeckaiaaDoorSwO
import Derived.Test.YthgnihckeckaiaaDoorSwG
namespace Go.Proofs.YthgnihckeckaiaaDoor.Tm
open Go.RowKit Go.Shelf
set_option linter.unusedVariables false
set_option linter.unusedSimpArgs false
attribute [local go_sem] Oper.semAt_some

/-- Between the rounds of Collect. lo: where the range's own memory begins. -/
structure CollSt (w : World) (lo im p14 p17 bm fb tb roomF room : Nat) (O : Nat → Prop) (L : List ObjA) (R : List Int) (cs : Nat → Prop) (pre : List Int) (W : World) : Prop where
  st : ∃ O', ColSt fb tb bm roomF room O O' L (colF L R pre).1 (colF L R pre).2 W ∧ (∀ k, cs k ↔ (O' k ∨ k = bm)) ∧ ∀ k, O' k → w.heap.size ≤ k
  inm : W.heap[im]? = some (.map (entsM R) R.length)
  b14 : BlkIs W p14 #[.map (some im)] 142
  b17 : BlkIs W p17 #[.pointer (some ⟨fb, 0, none⟩), .pointer (some ⟨tb, 0, none⟩), .map (some bm)] 145
  lt : im < lo ∧ p14 < lo ∧ p17 < lo ∧ bm < lo ∧ w.heap.size ≤ lo
  free : ¬ cs im ∧ ¬ cs p14 ∧ ¬ cs p17
  away : ∀ k, cs k → k < lo ∨ lo + 2 ≤ k
  base : Below w.heap.size w W
theorem CollSt.same {w : World} {lo im p14 p17 bm fb tb roomF room : Nat} {O : Nat → Prop} {L : List ObjA} {R : List Int} {cs : Nat → Prop} {pre : List Int} {W V : World} (h : CollSt w lo im p14 p17 bm fb tb roomF room O L R cs pre W) (hs : W.heap.size ≤ V.heap.size) (hb : ∀ k, k < W.heap.size → cs k ∨ k < lo → V.heap[k]? = W.heap[k]?) (hO : ∀ k, O k → k < w.heap.size) (hB : Below w.heap.size w V) (hT : TabsA V) : CollSt w lo im p14 p17 bm fb tb roomF room O L R cs pre V := by
  obtain ⟨O', h1, h2, h3⟩ := h.st
  obtain ⟨t1, t2, t3, t4, t5⟩ := h.lt
  refine ⟨⟨O', ⟨h1.af.same hs fun k hk => hb k (h1.af.lim k hk).2 (.inr (by have := hO k hk; omega)), h1.at_.same hs fun k hk => hb k (h1.at_.lim k hk).2 (.inl ((h2 k).2 (.inl hk))), (hb _ (lt_of_block h1.map) (.inr t4)).trans h1.map, h1.dis, h1.nb, h1.nb', h1.lo, hT⟩, h2, h3⟩, (hb _ (lt_of_block h.inm) (.inr t1)).trans h.inm, (hb _ h.b14.lt (.inr t2)).trans h.b14, (hb _ h.b17.lt (.inr t3)).trans h.b17, h.lt, h.free, h.away, hB⟩
theorem CollSt.fr {w : World} {lo im p14 p17 bm fb tb roomF room : Nat} {O : Nat → Prop} {L : List ObjA} {R : List Int} {cs : Nat → Prop} {pre : List Int} {W V : World} (h : CollSt w lo im p14 p17 bm fb tb roomF room O L R cs pre W) (hf : Fr (fun k => lo + 2 ≤ k ∧ ¬ cs k) W V) (hO : ∀ k, O k → k < w.heap.size) (h3 : 3 ≤ w.heap.size) : CollSt w lo im p14 p17 bm fb tb roomF room O L R cs pre V := by
  obtain ⟨_, _, _, _, t5⟩ := h.lt
  obtain ⟨O', h1, _, _⟩ := h.st
  exact h.same hf.size (fun k hk hc => hf.block k hk (fun e => by rcases hc with hc | hc; exact e.2 hc; have := e.1; omega)) hO (h.base.trans (hf.below h.base.size fun k hk => by have := hk.1; omega)) (h1.tabs.fr hf fun k hk => by have := hk.1; omega)
theorem CollSt.putObj {w : World} {lo im p14 p17 bm fb tb roomF room lp : Nat} {O : Nat → Prop} {L : List ObjA} {R : List Int} {cs : Nat → Prop} {pre : List Int} {W : World} (h : CollSt w lo im p14 p17 bm fb tb roomF room O L R cs pre W) {o : Obj} (o' : Obj) (hl : W.heap[lp]? = some o) (ho : o.isCells = false) (hl1 : lp = lo ∨ lp = lo + 1) (hO : ∀ k, O k → k < w.heap.size) (h3 : 3 ≤ w.heap.size) (hB : Below w.heap.size w (W.putObj lp o')) (hT : TabsA (W.putObj lp o')) : CollSt w lo im p14 p17 bm fb tb roomF room O L R cs pre (W.putObj lp o') :=
  h.same (by simp [World.putObj]) (fun k hk hc => World.putObj_heap_other (fun e => by
    subst e
    rcases hc with hc | hc
    · have := h.away _ hc; omega
    · omega)) hO hB hT
/-- What Collect leaves. -/
structure ColRes (w V : World) (tb cells : Nat) (O' : Nat → Prop) (L : List ObjA) (roots : List Int) (A' : Option Addr) (c' : Nat) : Prop where
  ar : ArAt V O' tb cells (colF L (rchW L roots) (wordsA 0 L)).1
  own : ∀ k, O' k → w.heap.size ≤ k
  row : V.ownsRow w.heap.size 27 1 (.slice A' roots.length c') roots.length (encW (roots.map (wherM (colF L (rchW L roots) (wordsA 0 L)).2)))
  base : Below w.heap.size w V
/-- The map of what is reached, as it is made. -/
structure InSt (w3 : World) (im p14 : Nat) (m : List Int) (wr : World) : Prop where
  map : wr.heap[im]? = some (.map (entsM m) m.length)
  box : BlkIs wr p14 #[.map (some im)] 142
  base : Below w3.heap.size w3 wr
theorem InSt.step {w3 wr w' : World} {im p14 : Nat} {m : List Int} {x : Int} (h : InSt w3 im p14 m wr) (hm : w'.heap[im]? = some (.map (entsM (m ++ [x])) (m ++ [x]).length)) (hg : wr.grownBy w' (some im)) (hi : w3.heap.size ≤ im) (hne : p14 ≠ im) : InSt w3 im p14 (m ++ [x]) w' :=
  ⟨hm, (hg.block p14 h.box.lt (fun e => hne (by injection e))).trans h.box, h.base.grown hg h.base.size (fun q e => by injection e with e; omega)⟩
set_option maxRecDepth 100000 in
set_option maxHeartbeats 8000000 in
theorem collect_in (n : Nat) (hn : 7 ≤ n) (w : World) (O : Nat → Prop) (ba room : Nat) (L : List ObjA) (roots : List Int) (A : Option Addr) (cap cells : Nat) (hA : ArAt w O ba room L) (hT : TabsA w) (hcl : ∀ o ∈ L, WfC o.cell) (hr : WReads w A roots) (hx : ∀ x ∈ roots, 0 ≤ x ∧ x < 18446744073709551616) (hlen : roots.length ≤ 10000000000000) (hall : allFind L roots = true) (hcells : cells ≤ 262144) (hfit : costsW L (rchW L roots) ≤ cells) :
    CallsIn Fence.wide n Tryd.prog 49 #[.pointer (some ⟨ba, 0, none⟩), .slice A roots.length cap, .int .i64 (cells : Int)] w fun e V => ∃ tb O' A' c', e = .returned (.tuple #[.pointer (some ⟨tb, 0, none⟩), .slice A' roots.length c', .int .i64 0]) ∧ ColRes w V tb cells O' L roots A' c' := by
  have hn1 : 1 ≤ n := by omega
  have hF1 : Fence.wide.fn 48 := trivial
  have hF2 : Fence.wide.fn 93 := trivial
  have hF3 : Fence.wide.fn 17 := trivial
  have hF4 : Fence.wide.fn 60 := trivial
  have hF5 : Fence.wide.fn 95 := trivial
  have hwf := hA.wf
  have hlims := hA.lims
  have hll := hwf.len
  have h3 := tabs_size hT
  have hE : rootE L roots = 0 := by unfold rootE; rw [if_pos hall]
  have hX0 : rchX L roots = rchW L roots := by unfold rchX; rw [if_pos hall]
  have hxo : ∀ x ∈ roots, FindOk L x := fun x q => ⟨(List.all_eq_true.1 hall) x q, hx x q⟩
  have hrok := rch_ok hwf hxo
  have hrl := hrok.met.len
  have hlv := slive_any w O ba room L roots A cap hA hT hcl hr hx (by omega)
  have hnew := fun V (hb : Below w.heap.size w V) => new_any cells V hcells (Nat.le_trans h3 hb.size)
  have hrd := fun V (hb : Below w.heap.size w V) => reached_any V O ba room L roots A cap (hA.below hb) (hr.below hb) hx (by omega)
  rw [hE, hX0] at hlv
  simp only [hE, hX0] at hrd
  obtain ⟨R, hR⟩ : ∃ R, rchW L roots = R := ⟨_, rfl⟩
  rw [hR] at hfit hrok hrl hlv
  simp only [hR] at hrd
  obtain ⟨N, hN⟩ : ∃ N, costsW L R = N := ⟨_, rfl⟩
  rw [hN] at hlv
  have hfb : decide ((cells : Int) < (N : Int)) = false := decide_eq_false (by omega)
  have hfb2 : ¬ cells < N := by omega
  have hfb3 : decide (cells < N) = false := decide_eq_false hfb2
  have HA := Lib.hid hA
  have HT := Lib.hid hT
  have HCL := Lib.hid hcl
  have HR := Lib.hid hr
  have HX := Lib.hid hx
  have HXO := Lib.hid hxo
  have HRR := Lib.hid hR
  have HROK := Lib.hid hrok
  have HWF := Lib.hid hwf
  have HNEW := Lib.hid hnew
  have HRD := Lib.hid hrd
  have HFIT := Lib.hid hfit
  have HNN := Lib.hid hN
  have hmm := @run_makeMap Tryd.prog
  clear hA hT hcl hr hx hxo hR hrok hwf hnew hrd hall hE hX0 hN hfit
  refine callsIn_of_wp_marks Tryd.func49 rfl trivial ?_ rfl
  simp only [Tryd.ntmps49, List.size_toArray, List.length_cons, List.length_nil, Nat.reduceAdd, Nat.reduceSub, Array.replicate_succ, Array.replicate_zero, List.push_toArray, List.append_toArray, List.nil_append, List.cons_append]
  gi_wp2_with (first
    | (gi_at_call 48; refine (callsIn_wide.2 hlv).mono ?_; rintro e w1 ⟨rfl, hb1⟩; have HB1 := Lib.hid hb1)
    | (gi_at_call 17; refine (callsIn_wide.2 (HNEW.out _ HB1.out)).mono ?_; rintro e w2 ⟨tb, O2, rfl, hA2, hO2, hb2⟩; have HB2 := Lib.hid (below_then HB1.out hb2); have HA2 := Lib.hid hA2; have HO2 := Lib.hid (show ∀ k, O2 k → w.heap.size ≤ k from fun k hk => by have := hO2 k hk; have := HB1.out.size; omega))
    | (gi_at_call 93; refine (callsIn_wide.2 (HRD.out _ HB2.out)).mono ?_; rintro e w3 ⟨A3, c3, rfl, hrow3, hb3⟩; have HB3 := Lib.hid (below_then HB2.out hb3); have HRW := Lib.hid (WReads.of_row hrow3); have HA3 := Lib.hid (HA2.out.below hb3)))
  have HIN := Lib.hid (show InSt w3 w3.heap.size (w3.heap.size + 1) [] ((w3.alloc (.map #[] 0)).alloc (.cells #[.map (some w3.heap.size)] 142)) from ⟨(Below.heap_alloc _ _ _ (by rw [World.size_alloc]; omega)).trans (heap_new w3 _), by
    have h := heap_new (w3.alloc (.map #[] 0)) (.cells #[.map (some w3.heap.size)] 142)
    rw [World.size_alloc] at h
    exact h, below_alloc' (below_one w3 _) _⟩)
  obtain ⟨im, him⟩ : ∃ k, w3.heap.size = k := ⟨_, rfl⟩
  have HIM := Lib.hid him
  rw [him] at HIN ⊢
  have h3i : w.heap.size ≤ im := by rw [← him]; exact HB3.out.size
  clear hlv hb1 hA2 hO2 hb2 hrow3 hb3 hfb hfb2 hfb3 him
  gi_loopw [46] (fun i wr => ∃ j : Nat, j ≤ R.length ∧ i = .int .i64 (j : Int) ∧ Hid (InSt w3 im (im + 1) (R.take j) wr)) (fun i _ => R.length - (intOf i).toNat)
  case atStart => exact ⟨0, Nat.zero_le _, rfl, HIN⟩
  case round =>
    clear HIN
    obtain ⟨j, hj, rfl, hS⟩ := hrel
    have m14 := hS.out.box.cell 0 (v := .map (some im)) rfl
    by_cases hlt : j < R.length
    · obtain ⟨g, o, hA3, q0⟩ := (HRW.out.below hS.out.base) j hlt
      subst hA3
      have hj1 : (j : Int) < (R.length : Int) := by omega
      have hj0 : (0 : Int) ≤ (j : Int) := Int.natCast_nonneg _
      have hbl : decide ((j : Int) < (R.length : Int)) = true := decide_eq_true hj1
      have TK := Lib.hid (List.take_succ_eq_append_getElem hlt)
      have hnd : R[j] ∉ R.take j := fun hm => by
        have h := HROK.out.met.nodup
        have h2 := h.sublist (List.take_sublist (j + 1) R)
        rw [TK.out, List.nodup_append] at h2
        exact h2.2.2 _ hm _ (by simp) rfl
      obtain ⟨x, hxe⟩ : ∃ x, R[j] = x := ⟨_, rfl⟩
      rw [hxe] at q0 hnd TK
      obtain ⟨w5, hup, hm5, hg5⟩ := run_meet wr im (R.take j) x hS.out.map hnd
      have HS5 : Hid (InSt w3 im (im + 1) (R.take (j + 1)) w5) := Lib.hid (by
        rw [TK.out]
        exact hS.out.step hm5 hg5 (by rw [HIM.out]; exact Nat.le_refl _) (by omega))
      clear hxe hnd hm5 hg5 hS
      gi_wp2
      go_roundw
      case rel => exact ⟨j + 1, by omega, by go_num, HS5⟩
      case measure => simp [intOf]; omega
    · obtain rfl : j = R.length := by omega
      have hst := hS.out
      rw [List.take_length] at hst
      have HIS := Lib.hid hst
      have hbl : decide ((R.length : Int) < (R.length : Int)) = false := decide_eq_false (by omega)
      obtain ⟨w5, hw5⟩ : ∃ W, W = wr := ⟨_, rfl⟩
      subst hw5
      clear hS hst hlt hj
      gi_wp2_with (gi_at_call 60; refine (callsIn_wide.2 (seqAll_gh (some ⟨ba, 0, none⟩) _)).mono ?_; rintro e w6 ⟨rfl, hw6⟩; have HW6 := Lib.hid hw6; clear hw6)
      obtain ⟨s5, hs5⟩ : ∃ k, w5.heap.size = k := ⟨_, rfl⟩
      have hB56 : Below w5.heap.size w5 w6 := by rw [HW6.out]; exact below_alloc' (below_alloc' (below_one w5 _) _) _
      have hBw5 := below_then HB3.out HIS.out.base
      have hBw6 := below_then hBw5 hB56
      have hz6 : w6.heap.size = s5 + 3 := by rw [HW6.out]; simp [hs5]
      have hsw5 : w.heap.size ≤ s5 := by rw [← hs5]; exact hBw5.size
      have him5 : im + 1 < s5 := by rw [← hs5]; exact HIS.out.box.lt
      have f1 : w6.heap[s5]? = some (.map #[] 0) := by
        rw [HW6.out, ← hs5]
        exact (Below.heap_alloc _ _ _ (by simp only [World.size_alloc]; omega)).trans ((Below.heap_alloc _ _ _ (by simp only [World.size_alloc]; omega)).trans (heap_new w5 _))
      have f2 : BlkIs w6 (s5 + 1) #[.pointer (some ⟨ba, 0, none⟩), .pointer (some ⟨tb, 0, none⟩), .map (some s5)] 145 := by
        have h := heap_new (w5.alloc (.map #[] 0)) (.cells #[.pointer (some ⟨ba, 0, none⟩), .pointer (some ⟨tb, 0, none⟩), .map (some w5.heap.size)] 145)
        rw [World.size_alloc] at h
        have h2 := (Below.heap_alloc ((w5.alloc (.map #[] 0)).alloc (.cells #[.pointer (some ⟨ba, 0, none⟩), .pointer (some ⟨tb, 0, none⟩), .map (some w5.heap.size)] 145)) (.cells #[.pointer (some ⟨ba, 0, none⟩)] 24) (w5.heap.size + 1) (by simp only [World.size_alloc]; omega)).trans h
        rw [← HW6.out, hs5] at h2
        exact h2
      have f3 : w6.cell? ⟨s5 + 1 + 1, 0, none⟩ = some (.pointer (some ⟨ba, 0, none⟩)) := by
        have h := Boxed.new ((w5.alloc (.map #[] 0)).alloc (.cells #[.pointer (some ⟨ba, 0, none⟩), .pointer (some ⟨tb, 0, none⟩), .map (some w5.heap.size)] 145)) 24 (.pointer (some ⟨ba, 0, none⟩))
        rw [World.size_alloc, World.size_alloc, ← HW6.out, hs5] at h
        exact h.cell
      have hOlt := fun k hk => (HA.out.lim k hk).2
      have hO2lt : ∀ k, O2 k → k < s5 := fun k hk => by
        have h1 := (HA3.out.lim k hk).2
        have h2 := HIS.out.base.size
        omega
      have hst0 : CollSt w w6.heap.size im (im + 1) (s5 + 1) s5 ba tb room cells O L R (fun k => O2 k ∨ k = s5) [] w6 :=
        ⟨⟨O2, ⟨HA.out.below hBw6, (HA3.out.below (below_then HIS.out.base hB56)), f1, fun k hk q => by have := hOlt k hk; have := HO2.out k q; omega, fun q => by have := hOlt _ q; omega, fun q => by have := hO2lt _ q; omega, by omega, HT.out.below hBw6⟩, fun k => Iff.rfl, HO2.out⟩,
          (hB56.block _ (lt_of_block HIS.out.map)).trans HIS.out.map, HIS.out.box.below hB56, f2, ⟨by omega, by omega, by omega, by omega, by omega⟩,
          ⟨fun q => by
            rcases q with q | q
            · have h1 := (HA3.out.lim _ q).2; have := HIM.out; omega
            · omega, fun q => by
            rcases q with q | q
            · have h1 := (HA3.out.lim _ q).2; have := HIM.out; omega
            · omega, fun q => by
            rcases q with q | q
            · have := hO2lt _ q; omega
            · omega⟩, fun k hk => .inl (by
            rcases hk with q | q
            · have := hO2lt _ q; omega
            · omega), hBw6⟩
      have HST := Lib.hid hst0
      have HSQ := Lib.hid (words1_gh (n - 1) (by omega) (s5 + 1 + 1) (w6.heap.size + 1) (fun _ => False) w6 O ba room L f3 (HA.out.below hBw6))
      have HOL := Lib.hid hOlt
      have HO5 := Lib.hid hO2lt
      rw [hs5]
      have HBW5 := Lib.hid hBw5
      clear hst0 f1 f2 f3 hOlt hO2lt hB56 hBw6 HIS hBw5 HW6 hs5 hmm m14
      refine range_gh rfl hn1 (gf := 107) (lb := #[.pointer (some ⟨s5 + 1 + 1, 0, none⟩)]) rfl trivial (enters_of Tryd.func107 (by kernel_rfl) rfl) rfl HSQ.out (fun k => O2 k ∨ k = s5) (fun k hk => ⟨by
          rcases hk with q | q
          · have := HO5.out k q; omega
          · omega, fun ho => ho⟩)
        (fun cs pre W => CollSt w w6.heap.size im (im + 1) (s5 + 1) s5 ba tb room cells O L R cs pre W)
        (fun cd cs pre W => False)
        ?gI ?sI ?sIx ?h0
        (fun y => { tmps := #[.pointer (some ⟨ba, 0, none⟩), .slice A roots.length cap, .int .i64 (cells : Int), undef, undef, undef, .pointer none, .slice none 0 0, .int .i64 0, .int .i64 (N : Int), .int .i64 0, .pointer (some ⟨tb, 0, none⟩), .slice A3 R.length c3, .int .i64 0, .pointer (some ⟨im + 1, 0, none⟩), undef, u16, .pointer (some ⟨s5 + 1, 0, none⟩), .int .u64 y,
          .tuple #[.int .i64 (N : Int), .int .i64 0], .pointer (some ⟨ba, 0, none⟩), .slice A roots.length cap, .tuple #[.int .i64 (N : Int), .int .i64 0], .int .i64 (N : Int), .int .i64 0, .int .i64 0, .bool false, undef, .int .i64 (cells : Int), .pointer (some ⟨tb, 0, none⟩), .bool false, .pointer (some ⟨tb, 0, none⟩), .bool false, .bool false, .int .i64 (cells : Int), .int .i64 (N : Int), .bool false,
          .tuple #[.slice A3 R.length c3, .int .i64 0], .pointer (some ⟨ba, 0, none⟩), .slice A roots.length cap, .tuple #[.slice A3 R.length c3, .int .i64 0], .slice A3 R.length c3, .int .i64 0, .map (some im), .slice A3 R.length c3, .int .i64 (R.length : Int), .int .i64 (R.length : Int), .bool false, u48, u49, u50, u51, u52,
          .pointer (some ⟨ba, 0, none⟩), .pointer (some ⟨tb, 0, none⟩), .map (some s5), .agg #[.pointer (some ⟨ba, 0, none⟩), .pointer (some ⟨tb, 0, none⟩), .map (some s5)], .pointer (some ⟨ba, 0, none⟩), .func (.func 107) #[] #[.pointer (some ⟨s5 + 1 + 1, 0, none⟩)], .int .u64 y, undef, undef, undef, undef, undef, undef, undef, undef, undef, undef, undef], defers := [] }) ?assign ?body ?done ?stop
      case gI =>
        intro cs pre W V h hf
        exact h.fr hf HOL.out h3
      case sI =>
        intro cs pre W r o hl h
        have hB : Below w.heap.size w (W.putObj (w6.heap.size + 1) o) := h.base.trans (belowK_b (w := w) (Nat.le_refl _) W _ _ o (by omega) hl rfl rfl)
        exact h.putObj o hl rfl (.inr rfl) HOL.out h3 hB (HT.out.below hB)
      case sIx => exact fun cd cs pre W r o hl h => h
      case h0 => exact HST.out
      case assign =>
        intro y W K hK
        gi_wp2
        exact hK
      case body =>
        intro cs pre x W hst hcs hpre hsz
        dsimp only
        have hn3 : 1 ≤ n - 1 - 1 := by omega
        have hF6 : Fence.wide.fn 94 := trivial
        have hu : usedA L ≤ 262144 := by omega
        have hpl := hpre.length_le
        rw [List.length_append, List.length_singleton, wordsA_len] at hpl
        have hpt : pre = (wordsA 0 L).take pre.length := by
          have h := List.prefix_iff_eq_take.1 ((List.prefix_append pre [x]).trans hpre)
          exact h
        have hxk : (wordsA 0 L)[pre.length]? = some x := by
          obtain ⟨t, ht⟩ := hpre
          rw [← ht]
          simp
        obtain ⟨x', e1, f1, s1, fo, pt, kd⟩ := word_is HWF.out hu (show pre.length < L.length by omega)
        rw [hxk] at e1
        cases e1
        have hci := col_inv HWF.out hu HCL.out HROK.out.weak (by have := HFIT.out; omega) pre.length (by omega)
        rw [← hpt] at hci
        obtain ⟨O', hC, hcO, hOw⟩ := hst.st
        have m14 := hst.b14.cell 0 (v := .map (some im)) rfl
        have m0 := hst.b17.cell 0 (v := .pointer (some ⟨ba, 0, none⟩)) rfl
        have m1 := hst.b17.cell 1 (v := .pointer (some ⟨tb, 0, none⟩)) rfl
        have m2 := hst.b17.cell 2 (v := .map (some s5)) rfl
        have hmet := run_met W im R x hst.inm
        have hne : ∀ k, k = w6.heap.size ∨ k = w6.heap.size + 1 → ¬ cs k := fun k hk hc => by
          have := hst.away k hc
          omega
        have HST' := Lib.hid hst
        have HCS := Lib.hid hcs
        have HNE := Lib.hid hne
        have HCO := Lib.hid hcO
        have HOW := Lib.hid hOw
        by_cases hxR : x ∈ R
        · have hlk := hmet.1 hxR
          obtain ⟨k0, k1, k2, k3, k4, k5, k6, k7⟩ := hci.add HWF.out hu HCL.out HROK.out.weak (by have := HFIT.out; omega) hxk hxR
          have hone := one_any W ba tb s5 room cells O O' L _ _ x hC fo ⟨k1, k2, k3, k4, k5, by have := HFIT.out; omega, k7⟩
          have HCF := Lib.hid (show colF L R (pre ++ [x]) = ((oneM L (colF L R pre).1 (colF L R pre).2 x).1, (colF L R pre).2 ++ [(x, (oneM L (colF L R pre).1 (colF L R pre).2 x).2)]) by
            rw [colF_snoc]
            unfold colStep
            rw [if_pos hxR])
          clear hst hcs hne hcO hOw hmet hxR k0 k1 k2 k3 k4 k5 k6 k7 hci hxk hpt f1 s1 kd hpre
          gi_wp2_with (gi_at_call 94; refine (CallsIn.inRound _ (callsIn_wide.2 hone)).mono ?_; rintro e w7 ⟨⟨v, rfl⟩, O'', j1, j2, j3, j4⟩; have J1 := Lib.hid j1; have J2 := Lib.hid j2; have J3 := Lib.hid j3; have J4 := Lib.hid j4)
          have hfr := J4.out
          have hst := HST'.out
          obtain ⟨t1, t2, t3, t4, t5⟩ := hst.lt
          obtain ⟨u1, u2, u3⟩ := hst.free
          have hcs2 : ∀ k, ¬ cs k → ¬ (O' k ∨ k = s5) := fun k hk q => hk ((HCO.out k).2 q)
          have hkeep : ∀ k, k < W.heap.size → ¬ cs k → w7.heap[k]? = W.heap[k]? := fun k hk hc => hfr.block k hk (hcs2 k hc)
          have hB7 : Below w.heap.size w w7 := hst.base.trans (hfr.below hst.base.size fun k hk => by
            rcases hk with hk | hk
            · exact HOW.out k hk
            · omega)
          have hsW := hfr.size
          refine ⟨⟨hkeep _ (by omega) (HNE.out _ (.inl rfl)), hkeep _ (by omega) (HNE.out _ (.inr rfl))⟩, fun k => O'' k ∨ k = s5, ⟨hsW, fun k o hk ho _ => ?_, fun k hk => ?_⟩, ⟨⟨O'', by rw [HCF.out]; exact J1.out, fun k => Iff.rfl, fun k hk => ?_⟩, ?_, ?_, ?_, hst.lt, ⟨?_, ?_, ?_⟩, fun k hk => ?_, hB7⟩⟩
          · rw [hkeep k (lt_of_block ho) hk]
            exact ho
          · rcases hk with hk | hk
            · refine ⟨?_, (J1.out.at_.lim k hk).2⟩
              rcases J3.out k hk with q | q
              · exact .inl ((HCO.out k).2 (.inl q))
              · exact .inr q
            · rw [hk]
              exact ⟨.inl ((HCO.out s5).2 (.inr rfl)), by omega⟩
          · rcases J3.out k hk with q | q
            · exact HOW.out k q
            · have := hst.base.size; omega
          · rw [hkeep _ (lt_of_block hst.inm) u1]; exact hst.inm
          · exact (hkeep _ hst.b14.lt u2).trans hst.b14
          · exact (hkeep _ hst.b17.lt u3).trans hst.b17
          · intro q
            rcases q with q | q
            · rcases J3.out _ q with q | q
              · exact u1 ((HCO.out _).2 (.inl q))
              · omega
            · omega
          · intro q
            rcases q with q | q
            · rcases J3.out _ q with q | q
              · exact u2 ((HCO.out _).2 (.inl q))
              · omega
            · omega
          · intro q
            rcases q with q | q
            · rcases J3.out _ q with q | q
              · exact u3 ((HCO.out _).2 (.inl q))
              · omega
            · omega
          · rcases hk with q | q
            · rcases J3.out _ q with q | q
              · exact hst.away _ ((HCO.out _).2 (.inl q))
              · omega
            · omega
        · have hlk := hmet.2 hxR
          have HCF := Lib.hid (show colF L R (pre ++ [x]) = colF L R pre by
            rw [colF_snoc]
            unfold colStep
            rw [if_neg hxR])
          clear hst hcs hne hcO hOw hmet hxR hci hxk hpt f1 s1 kd hpre
          gi_wp2
          have hst := HST'.out
          refine ⟨⟨rfl, rfl⟩, cs, ⟨Nat.le_refl _, fun k o _ h _ => h, fun k hk => ⟨.inl hk, HCS.out k hk⟩⟩, ⟨?_, hst.inm, hst.b14, hst.b17, hst.lt, hst.free, hst.away, hst.base⟩⟩
          rw [HCF.out]
          exact hst.st
      case done =>
        intro cs W hst hK
        dsimp only
        obtain ⟨O', hC, hcO, hOw⟩ := hst.st
        have m0 := hst.b17.cell 0 (v := .pointer (some ⟨ba, 0, none⟩)) rfl
        have m1 := hst.b17.cell 1 (v := .pointer (some ⟨tb, 0, none⟩)) rfl
        have m2 := hst.b17.cell 2 (v := .map (some s5)) rfl
        have hmd := mapped_any W ⟨ba, 0, none⟩ ⟨tb, 0, none⟩ s5 _ roots A cap (HR.out.below hst.base) HX.out hlen hC.map
        have HS := Lib.hid hst
        have HC := Lib.hid hC
        have HCO := Lib.hid hcO
        have HOW := Lib.hid hOw
        have HK := Lib.hid hK
        clear hst hC hcO hOw hK
        gi_wp2_with (gi_at_call 95; refine (callsIn_wide.2 hmd).mono ?_; rintro e w8 ⟨A8, c8, rfl, hH⟩; have HH := Lib.hid hH; clear hH)
        have hK8 : w8.heap[w6.heap.size]? = some (.deferred (some [])) := (HH.out.base.block _ (lt_of_block HK.out)).trans HK.out
        rw [hz6] at hK8
        refine ⟨by simp, .inl ⟨_, _, rfl, run_takeDeferred hK8, ?_⟩⟩
        have hB8 := below_then HS.out.base HH.out.base
        have hsz := HS.out.base.size
        refine ⟨_, results_tmp3 rfl _ _ _, tb, O', A8, c8, rfl, ?_, HOW.out, ?_, hB8.trans (belowK_b (w := w) (Nat.le_refl _) w8 _ _ _ (by omega) hK8 rfl rfl)⟩
        · rw [HRR.out]
          refine (HC.out.at_.below HH.out.base).same (by simp [World.putObj]) fun k hk => World.putObj_heap_other (fun e => ?_)
          have := HS.out.away k ((HCO.out k).2 (.inl hk))
          omega
        · rw [HRR.out]
          have hrow := HH.out.row
          rw [List.length_map] at hrow
          exact ownsRow_putObj (row_mono hrow hsz) _ hK8 rfl
      case stop =>
        intro cd cs pre W hS h
        exact h.elim
end Go.Proofs.YthgnihckeckaiaaDoor.Tm
