/- Arena's calls for layer 4: Tuple, Cons, Cell, Part, Cost, Clear (blocks of ArI, ArB, RgB, RgC, RgD, RgI, RgN; without the law's of layer 3). -/
import Derived.Test.YthgnihckeckaiaaDoorArH
import Derived.Test.YthgnihckeckaiaaDoorMidA
namespace Go.Proofs.YthgnihckeckaiaaDoor.Tm
open Go.RowKit
set_option linter.unusedVariables false
set_option linter.unusedSimpArgs false
structure PutSpec (l : List ObjA) (t : List CellD) : Prop where
  ext : Ext l (putF l t).1
  wf : WfA (putF l t).1
  used : usedA (putF l t).1 = usedA l + totalA t
  fx : FindOk (putF l t).1 (putF l t).2.2
  tell : Tells (putF l t).1 [(putF l t).2.2] t
theorem put_spec {l : List ObjA} {t : List CellD} (hw : WfA l) (hg : Good t 1) (h0 : t.length ≠ 0) (hu : usedA l + totalA t ≤ 262144) : PutSpec l t := by
  have h := put_inv hw t [] (l, [], 0) 1 ⟨Ext.refl l, hw, fun p hp => (by cases hp), by simp [costs, totalA], .inl ⟨rfl, rfl, rfl⟩⟩ hg (by simpa using hu)
  rw [List.nil_append] at h
  obtain ⟨a, b, c, d, e⟩ := h
  rcases e with ⟨_, e, _⟩ | ⟨_, _, e⟩ | ⟨e1, e2, e3, _⟩
  · rw [e] at h0; exact absurd rfl h0
  · omega
  · refine ⟨a, b, ?_, e2, e3⟩
    rw [e1] at d
    simp only [costs, List.map_nil, List.sum_nil, Nat.add_zero] at d
    exact d
def tupA (n : Nat) : CellD := ⟨5, (n : Int), ⟨#[]⟩⟩
theorem tupA_ok {n : Nat} (h : n ≤ 255) : cellE (tupA n) = 0 ∧ kidsD (tupA n) = n ∧ WfC (tupA n) := by
  refine ⟨?_, ?_, by simp only [tupA]; omega, by simp only [tupA]; omega, by simp [tupA, ByteArray.size]⟩
  · simp [cellE, tupA, ByteArray.size]; omega
  · unfold kidsD tupA
    rw [if_neg (by simp), if_pos ⟨rfl, by simp, by simp; omega⟩]
    simp
theorem tupA_cost {n : Nat} : costC (tupA n) = 1 + n := by
  unfold costC tupA plainK
  rw [if_neg (by simp), if_neg (by simp), if_pos (by simp), if_pos (by simp)]
  simp [ByteArray.size]
set_option maxHeartbeats 1000000 in
theorem tuple_any (w : World) (O : Nat → Prop) (ba room : Nat) (l : List ObjA) (ws : List Int) (A : Option Addr) (cap : Nat) (h : ArAt w O ba room l) (hT : TabsA w) (hr : WReads w A ws) (hk : ws.length ≤ 255) (hR : ∀ p ∈ ws, 0 ≤ p ∧ p < 18446744073709551616) :
    Calls Tryd.prog 47 #[.pointer (some ⟨ba, 0, none⟩), .slice A ws.length cap] w fun e w' => e = .returned (.tuple #[.int .u64 (holdX room l (tupA ws.length) ws), .int .i64 (holdE room l (tupA ws.length) ws)]) ∧ Made w w' O ba room (holdL room l (tupA ws.length) ws) := by
  obtain ⟨k1, k2, k3⟩ := tupA_ok hk
  have hh := fun W (hB : Below w.heap.size w W) => hold_any W O ba room l (tupA ws.length) ws A cap (h.below hB) (hT.below hB) k3 k1 (hr.below hB) k2.symm hR
  have hcap := h.lims
  generalize holdX room l (tupA ws.length) ws = X at *
  generalize holdE room l (tupA ws.length) ws = E at *
  generalize holdL room l (tupA ws.length) ws = L at *
  simp only [tupA] at hh
  have hh := hh w (Below.refl _ _)
  obtain ⟨n, hn⟩ : ∃ n, ws.length = n := ⟨_, rfl⟩
  rw [hn] at hh hk ⊢
  have hb : decide ((255 : Int) < (n : Int)) = false := decide_eq_false (by omega)
  clear h hT hr hR k1 k2 k3 hn hcap
  go_enter Tryd.func47, Tryd.ntmps47
  go_wp2_with fail
  refine hh.mono ?_
  rintro e w1 ⟨rfl, hM⟩
  go_wp2
  go_ret2
  exact ⟨rfl, hM⟩
theorem get_fine (w : World) (O : Nat → Prop) (ba room : Nat) (l : List ObjA) (x : Int) (t : List CellD) (h0 : 0 ≤ x) (h1 : x < 18446744073709551616) (h : ArAt w O ba room l) (ht : Tells l [x] t) (hl : t.length ≤ 1024) :
    Calls Tryd.prog 24 #[.pointer (some ⟨ba, 0, none⟩), .int .u64 x] w fun e w' => (∃ A c, e = .returned (.tuple #[.slice A t.length c, .int .i64 0]) ∧ w'.ownsRow w.heap.size 40 3 (.slice A t.length c) t.length (encs t)) ∧ Below w.heap.size w w' := by
  refine (get_any w O ba room l x t h0 h1 h ht).mono ?_
  intro e w' h
  unfold IsGet at h
  rw [if_pos hl] at h
  exact h
theorem get_big (w : World) (O : Nat → Prop) (ba room : Nat) (l : List ObjA) (x : Int) (t : List CellD) (h0 : 0 ≤ x) (h1 : x < 18446744073709551616) (h : ArAt w O ba room l) (ht : Tells l [x] t) (hl : ¬ t.length ≤ 1024) :
    Calls Tryd.prog 24 #[.pointer (some ⟨ba, 0, none⟩), .int .u64 x] w fun e w' => e = .returned (.tuple #[.slice none 0 0, .int .i64 7]) ∧ Below w.heap.size w w' := by
  refine (get_any w O ba room l x t h0 h1 h ht).mono ?_
  intro e w' h
  unfold IsGet at h
  rw [if_neg hl] at h
  exact h
def okT : ByteArray := ⟨#[111, 107]⟩
theorem ok_ok : okFrom okT 0 = true := by
  have h1 : badAt okT 0 = false := by decide +kernel
  have h2 : (Utf8.decode okT 0).2 = 1 := by decide +kernel
  have h3 : badAt okT 1 = false := by decide +kernel
  have h4 : (Utf8.decode okT 1).2 = 1 := by decide +kernel
  rw [okFrom, if_pos (by decide), if_neg (by simp [h1]), h2, show 0 + max 1 1 = 1 from rfl, okFrom, if_pos (by decide), if_neg (by simp [h3]), h4, okFrom, if_neg (by decide)]
theorem Made.trans_below {w w' w'' : World} {O : Nat → Prop} {ba room : Nat} {l' : List ObjA} (hB : Below w.heap.size w w') (hO : ∀ k, O k → w.heap.size ≤ k) (h : Made w' w'' O ba room l') : ∃ O', ArAt w'' O' ba room l' ∧ (∀ k, O' k → w.heap.size ≤ k) ∧ Below w.heap.size w w'' := by
  obtain ⟨O', a1, a2, a3, a4⟩ := h
  have hs := hB.size
  refine ⟨O', a1, fun k hk => ?_, hB.trans (a4.below hs hO)⟩
  rcases a3 k hk with h | h
  · exact hO k h
  · omega
set_option maxHeartbeats 1000000 in
theorem tuple_big (w : World) (O : Nat → Prop) (ba room : Nat) (l : List ObjA) (A : Option Addr) (n cap : Nat) (h : ArAt w O ba room l) (hk : 255 < n) :
    Calls Tryd.prog 47 #[.pointer (some ⟨ba, 0, none⟩), .slice A n cap] w fun e w' => e = .returned (.tuple #[.int .u64 0, .int .i64 4]) ∧ Made w w' O ba room l := by
  have hb : decide ((255 : Int) < (n : Int)) = true := decide_eq_true (by omega)
  have hM := Made.of_below h (Below.refl w.heap.size w)
  clear h
  go_enter Tryd.func47, Tryd.ntmps47
  go_wp2_with fail
  go_ret2
  exact ⟨rfl, hM⟩
theorem Made.pre {w w1 w2 : World} {O : Nat → Prop} {ba room : Nat} {l : List ObjA} (hB : Below w.heap.size w w1) (h : Made w1 w2 O ba room l) : Made w w2 O ba room l := by
  obtain ⟨O', a1, a2, a3, a4⟩ := h
  have hs := hB.size
  exact ⟨O', a1, a2, fun k hk => (a3 k hk).imp id (fun h => by omega), (Fr.of_below hB).trans a4⟩
def consA : CellD := ⟨7, 0, ⟨#[]⟩⟩
theorem consA_ok : cellE consA = 0 ∧ kidsD consA = 2 ∧ WfC consA ∧ costC consA = 2 := by
  refine ⟨by decide, by decide, ⟨by decide, by decide, by decide⟩, by decide⟩
theorem two_words2 {w : World} {g : Nat} {t : TypeId} {x y : Int} (h : w.heap[g]? = some (.cells #[.int .u64 x, .int .u64 y] t (0, 0))) : WReads w (some ⟨g, 0, none⟩) [x, y] := by
  intro j hj
  have : j < 2 := hj
  match j, this with
  | 0, _ => exact ⟨g, 0, rfl, by simp [World.cell?, h]⟩
  | 1, _ => exact ⟨g, 0, rfl, by simp [World.cell?, h]⟩
set_option maxHeartbeats 1000000 in
theorem cons_any (w : World) (O : Nat → Prop) (ba room : Nat) (l : List ObjA) (x y : Int) (hx : 0 ≤ x ∧ x < 18446744073709551616) (hy : 0 ≤ y ∧ y < 18446744073709551616) (h : ArAt w O ba room l) (hT : TabsA w) :
    Calls Tryd.prog 75 #[.pointer (some ⟨ba, 0, none⟩), .int .u64 x, .int .u64 y] w fun e w' => e = .returned (.tuple #[.int .u64 (holdX room l consA [x, y]), .int .i64 (holdE room l consA [x, y])]) ∧ Made w w' O ba room (holdL room l consA [x, y]) := by
  obtain ⟨k1, k2, k3, _⟩ := consA_ok
  have hB0 := below_one w (.cells #[.int .u64 x, .int .u64 y] 27)
  have hh : Calls Tryd.prog 92 #[.pointer (some ⟨ba, 0, none⟩), .agg #[.int .i64 7, .int .i64 0, .string ⟨#[]⟩], .slice (some ⟨w.heap.size, 0, none⟩) 2 2] _ _ := hold_any (w.alloc (.cells #[.int .u64 x, .int .u64 y] 27)) O ba room l consA [x, y] (some ⟨w.heap.size, 0, none⟩) 2 (h.below hB0) (hT.below hB0) k3 k1 (two_words2 (heap_new w _)) k2.symm (fun p hp => by
    simp at hp
    rcases hp with rfl | rfl
    · exact hx
    · exact hy)
  go_enter Tryd.func75, Tryd.ntmps75
  go_wp2_with fail
  refine hh.mono ?_
  rintro e w1 ⟨rfl, hM⟩
  go_wp2
  go_ret2
  exact ⟨rfl, Made.pre hB0 hM⟩
def cellS (s : Option (CellD × List Int)) : CellD := match s with
  | some (c, _) => c
  | none => zeroC
def errS (s : Option (CellD × List Int)) : Int := match s with
  | some _ => 0
  | none => 31
theorem seen_form {w' : World} {O : Nat → Prop} {s : Option (CellD × List Int)} {e : Ending} (h : IsSeen w' O s e) : ∃ A n cap, e = .returned (.tuple #[(cellS s).agg, .slice A n cap, .int .i64 (errS s)]) ∧ n = (match s with | some (_, p) => p.length | none => 0) ∧ (∀ c p, s = some (c, p) → p.length ≤ cap ∧ WReads w' A p) := by
  cases s with
  | none => exact ⟨none, 0, 0, h, rfl, fun c p e => by cases e⟩
  | some r =>
    obtain ⟨c, p⟩ := r
    obtain ⟨A, cap, h1, h2, h3, _⟩ := h
    refine ⟨A, p.length, cap, h1, rfl, fun c' p' e => ?_⟩
    cases e
    exact ⟨h2, h3⟩
set_option maxHeartbeats 1000000 in
theorem acell_any (w : World) (O : Nat → Prop) (ba room : Nat) (l : List ObjA) (x : Int) (h0 : 0 ≤ x) (h1 : x < 18446744073709551616) (h : ArAt w O ba room l) :
    Calls Tryd.prog 33 #[.pointer (some ⟨ba, 0, none⟩), .int .u64 x] w fun e w' => e = .returned (.tuple #[(cellS (seenA l x)).agg, .int .i64 (errS (seenA l x))]) ∧ Below w.heap.size w w' := by
  have hB0 := below_one w (.cells #[.int .i64 0, .int .i64 0, .string ⟨#[]⟩] 40)
  have hseen := seen_any _ O ba room l x h0 h1 (h.below hB0)
  have hY := heap_new w (.cells #[.int .i64 0, .int .i64 0, .string ⟨#[]⟩] 40)
  obtain ⟨s, hs⟩ : ∃ s, seenA l x = s := ⟨_, rfl⟩
  rw [hs] at hseen ⊢
  clear hs
  go_enter Tryd.func33, Tryd.ntmps33
  go_wp2_with fail
  refine hseen.mono ?_
  rintro e w1 ⟨he, hb⟩
  obtain ⟨A, n, cap, rfl, -, -⟩ := seen_form he
  obtain ⟨c, hc⟩ : ∃ c, cellS s = c := ⟨_, rfl⟩
  obtain ⟨er, her⟩ : ∃ er, errS s = er := ⟨_, rfl⟩
  have HC := Lib.hid (⟨hc, her⟩ : cellS s = c ∧ errS s = er)
  rw [hc, her]
  rw [cell_seen_agg]
  have hB1 := below_then hB0 hb
  obtain ⟨d0, d1, d2, f0, f1, f2⟩ := loc3 hY (below_alloc' hb (.cells #[.int .i64 c.kind, .int .i64 c.n, .string c.text] 40))
  have hB2 := below_alloc' hB1 (.cells #[.int .i64 c.kind, .int .i64 c.n, .string c.text] 40)
  have HBF := Lib.hid (((hB2.setCell (p := ⟨w.heap.size, 0, none⟩) (Nat.le_refl _) (.int .i64 c.kind)).setCell (p := ⟨w.heap.size, 1, none⟩) (Nat.le_refl _) (.int .i64 c.n)).setCell (p := ⟨w.heap.size, 2, none⟩) (Nat.le_refl _) (.string c.text))
  clear hc her he
  go_wp2
  refine bodyPost_ret (v := .tuple #[.agg #[.int .i64 c.kind, .int .i64 c.n, .string c.text], .int .i64 er]) (by simp [results, Tryd.results33, go_sem, d0, d1, d2]) rfl ?_
  rw [HC.out.1, HC.out.2]
  exact ⟨rfl, HBF.out⟩
/-- What Part answers. -/
def partE (s : Option (CellD × List Int)) (i : Int) : Int := match s with
  | none => 31
  | some (c, p) => if ¬ (c.kind = 5 ∨ c.kind = 7) then 32 else if i < 0 ∨ (p.length : Int) ≤ i then 1 else 0
def partX (s : Option (CellD × List Int)) (i : Int) : Int := match s with
  | none => 0
  | some (c, p) => if partE (some (c, p)) i = 0 then p.getD i.toNat 0 else 0
set_option maxHeartbeats 2000000 in
theorem apart_any (w : World) (O : Nat → Prop) (ba room : Nat) (l : List ObjA) (x i : Int) (h0 : 0 ≤ x) (h1 : x < 18446744073709551616) (h : ArAt w O ba room l) :
    Calls Tryd.prog 88 #[.pointer (some ⟨ba, 0, none⟩), .int .u64 x, .int .i64 i] w fun e w' => e = .returned (.tuple #[.int .u64 (partX (seenA l x) i), .int .i64 (partE (seenA l x) i)]) ∧ Below w.heap.size w w' := by
  have hseen := seen_any w O ba room l x h0 h1 h
  cases hs : seenA l x with
  | none =>
    rw [hs] at hseen
    clear hs
    go_enter Tryd.func88, Tryd.ntmps88
    go_wp2_with fail
    refine hseen.mono ?_
    rintro e w1 ⟨he, hB⟩
    obtain rfl : e = _ := he
    rw [cell_seen_agg]
    go_wp2
    go_ret2
    exact ⟨rfl, below_alloc' hB _⟩
  | some r =>
    obtain ⟨c, p⟩ := r
    rw [hs] at hseen
    clear hs
    by_cases hk : c.kind = 5 ∨ c.kind = 7
    · by_cases hi : i < 0 ∨ (p.length : Int) ≤ i
      · have E := Lib.hid (show partE (some (c, p)) i = 1 by unfold partE; simp only; rw [if_neg (fun q => q hk), if_pos hi])
        have E2 := Lib.hid (show partX (some (c, p)) i = 0 by unfold partX; simp only; rw [E.out, if_neg (by omega)])
        have hkb : (c.kind != 5) = false ∨ ((c.kind != 5) = true ∧ (c.kind != 7) = false) := by
          by_cases e : c.kind = 5
          · exact .inl (by rw [e]; rfl)
          · exact .inr ⟨by simp [e], by rw [show c.kind = 7 by omega]; rfl⟩
        have hib : (i < 0 ∧ decide (i < 0) = true) ∨ (¬ i < 0 ∧ decide (i < 0) = false ∧ (p.length : Int) ≤ i ∧ decide ((p.length : Int) ≤ i) = true) := by
          by_cases e : i < 0
          · exact .inl ⟨e, decide_eq_true e⟩
          · exact .inr ⟨e, decide_eq_false e, by omega, decide_eq_true (by omega)⟩
        clear hk hi
        rcases hkb with k5 | ⟨k5, k7⟩
        all_goals
          rcases hib with ⟨hi, hib⟩ | ⟨hi, hib, hj, hjb⟩
          all_goals
            go_enter Tryd.func88, Tryd.ntmps88
            go_wp2_with fail
            refine hseen.mono ?_
            rintro e w1 ⟨⟨A, cap, rfl, hcp, hW, _⟩, hB⟩
            rw [cell_seen_agg]
            go_wp2
            go_ret2
            rw [E.out, E2.out]
            exact ⟨rfl, below_alloc' hB _⟩
      · obtain ⟨j, rfl⟩ : ∃ j : Nat, i = (j : Int) := ⟨i.toNat, by omega⟩
        have hj : j < p.length := by omega
        have E := Lib.hid (show partE (some (c, p)) (j : Int) = 0 by unfold partE; simp only; rw [if_neg (fun q => q hk), if_neg hi])
        have E2 := Lib.hid (show partX (some (c, p)) (j : Int) = p[j] by unfold partX; simp only; rw [E.out, if_pos rfl]; simp [hj])
        have hkb : (c.kind != 5) = false ∨ ((c.kind != 5) = true ∧ (c.kind != 7) = false) := by
          by_cases e : c.kind = 5
          · exact .inl (by rw [e]; rfl)
          · exact .inr ⟨by simp [e], by rw [show c.kind = 7 by omega]; rfl⟩
        have hjb : decide ((p.length : Int) ≤ (j : Int)) = false := decide_eq_false (by omega)
        have hjn : ¬ p.length ≤ j := by omega
        have hj1 : (j : Int) < (p.length : Int) := by omega
        clear hk hi
        rcases hkb with k5 | ⟨k5, k7⟩
        all_goals
          go_enter Tryd.func88, Tryd.ntmps88
          go_wp2_with fail
          refine hseen.mono ?_
          rintro e w1 ⟨⟨A, cap, rfl, hcp, hW, _⟩, hB⟩
          rw [cell_seen_agg]
          obtain ⟨g, o, rfl, hc⟩ := hW j hj
          have hc' := cell_below (below_one w1 (.cells #[.int .i64 c.kind, .int .i64 c.n, .string c.text] 40)) hc
          clear hW hc
          go_wp2
          go_ret2
          rw [E.out, E2.out]
          exact ⟨rfl, below_alloc' hB _⟩
    · have E := Lib.hid (show partE (some (c, p)) i = 32 by unfold partE; simp only; rw [if_pos hk])
      have E2 := Lib.hid (show partX (some (c, p)) i = 0 by unfold partX; simp only; rw [E.out, if_neg (by omega)])
      have k5 : (c.kind == 5) = false := beq_eq_false_iff_ne.2 (fun e => hk (.inl e))
      have k7 : (c.kind == 7) = false := beq_eq_false_iff_ne.2 (fun e => hk (.inr e))
      have k5' : (c.kind != 5) = true := by rw [bne_iff_ne]; exact fun e => hk (.inl e)
      have k7' : (c.kind != 7) = true := by rw [bne_iff_ne]; exact fun e => hk (.inr e)
      clear hk
      go_enter Tryd.func88, Tryd.ntmps88
      go_wp2_with fail
      refine hseen.mono ?_
      rintro e w1 ⟨⟨A, cap, rfl, hcp, hW, _⟩, hB⟩
      rw [cell_seen_agg]
      go_wp2
      go_ret2
      rw [E.out, E2.out]
      exact ⟨rfl, below_alloc' hB _⟩
set_option maxHeartbeats 1000000 in
theorem acost_any (w : World) (O : Nat → Prop) (ba room : Nat) (l : List ObjA) (x : Int) (c : CellD) (ps : List Int) (h0 : 0 ≤ x) (h1 : x < 18446744073709551616) (h : ArAt w O ba room l) (hT : TabsA w) (hs : seenA l x = some (c, ps)) (hc : WfC c) (he : cellE c = 0) :
    Calls Tryd.prog 86 #[.pointer (some ⟨ba, 0, none⟩), .int .u64 x] w fun e w' => e = .returned (.tuple #[.int .i64 (costC c : Int), .int .i64 0]) ∧ Below w.heap.size w w' := by
  have hseen := seen_any w O ba room l x h0 h1 h
  rw [hs] at hseen
  have HC := Lib.hid (⟨hc, he⟩ : WfC c ∧ cellE c = 0)
  clear hs hc he
  go_enter Tryd.func86, Tryd.ntmps86
  go_wp2_with fail
  refine hseen.mono ?_
  rintro e w1 ⟨⟨A, cap, rfl, _⟩, hB⟩
  rw [cell_seen_agg]
  have hB2 := below_alloc' hB (.cells #[.int .i64 c.kind, .int .i64 c.n, .string c.text] 40)
  have hz := cost_any c _ (hT.below hB2) HC.out.1 HC.out.2
  go_wp2_with fail
  refine hz.mono ?_
  rintro e w2 ⟨rfl, hb⟩
  go_wp2
  go_ret2
  exact ⟨rfl, below_then hB2 hb⟩
theorem ext_take (l : List ObjA) (k : Nat) : Ext (l.take k) l := ⟨l.drop k, by simp⟩
theorem tells_list {l : List ObjA} : ∀ {ps : List Int}, (∀ p ∈ ps, ∃ t, Tells l [p] t) → ∃ t, Tells l ps t
  | [], _ => ⟨[], .nil⟩
  | p :: ps, h => by
    obtain ⟨t, ht⟩ := h p (by simp)
    obtain ⟨u, hu⟩ := tells_list (ps := ps) (fun q hq => h q (by simp [hq]))
    exact ⟨t ++ u, by simpa using ht.append hu⟩
theorem tells_below {l : List ObjA} (hw : WfA l) : ∀ (n : Nat) (x : Int) (k : Int), findA l x = some k → k < n → ∃ t, Tells l [x] t
  | 0, x, k, hf, hk => by
    have hlt := findA_lt hf
    have hk1 : k = -1 := by omega
    subst hk1
    refine ⟨[cellW x], .cons (ps := []) ?_ .nil⟩
    unfold seenA
    rw [hf]
    rfl
  | n + 1, x, k, hf, hk => by
    by_cases h : k < n
    · exact tells_below hw n x k hf h
    · have hkn : k = (n : Int) := by omega
      subst hkn
      have hlt := findA_lt hf
      have hn : n < l.length := by omega
      have hs : seenA l x = some (l[n].cell, l[n].parts) := by
        unfold seenA
        rw [hf]
        simp only
        rw [if_neg (by omega), Int.toNat_natCast, List.getElem?_eq_getElem hn]
        rfl
      obtain ⟨t, ht⟩ := tells_list (l := l) (ps := l[n].parts) (fun p hp => by
        obtain ⟨j, hj⟩ := Option.isSome_iff_exists.1 ((hw n hn).parts p hp).1
        have hjl := findA_lt hj
        rw [List.length_take] at hjl
        exact tells_below hw n p j ((ext_take l n).find hj) (by omega))
      exact ⟨l[n].cell :: t, .cons hs (by simpa using ht)⟩
theorem tells_exists {l : List ObjA} (hw : WfA l) {x : Int} (hf : (findA l x).isSome = true) : ∃ t, Tells l [x] t := by
  obtain ⟨k, hk⟩ := Option.isSome_iff_exists.1 hf
  have := findA_lt hk
  exact tells_below hw l.length x k hk this.2
theorem seen_none {l : List ObjA} {x : Int} (h : findA l x = none) : seenA l x = none := by unfold seenA; rw [h]
def ttOf (t : List CellD) : List CellD := if t.length ≤ 1024 then t else []
def erOf (t : List CellD) : Int := if t.length ≤ 1024 then 0 else 7
theorem ttOf_len (t : List CellD) : (ttOf t).length ≤ 1024 := by unfold ttOf; split <;> simp_all
theorem get_tt (w : World) (O : Nat → Prop) (ba room : Nat) (l : List ObjA) (x : Int) (t : List CellD) (h0 : 0 ≤ x) (h1 : x < 18446744073709551616) (h : ArAt w O ba room l) (ht : Tells l [x] t) :
    Calls Tryd.prog 24 #[.pointer (some ⟨ba, 0, none⟩), .int .u64 x] w fun e w' => (∃ A c, e = .returned (.tuple #[.slice A (ttOf t).length c, .int .i64 (erOf t)]) ∧ w'.ownsRow w.heap.size 40 3 (.slice A (ttOf t).length c) (ttOf t).length (encs (ttOf t))) ∧ Below w.heap.size w w' := by
  unfold ttOf erOf
  by_cases hl : t.length ≤ 1024
  · simp only [if_pos hl]
    exact get_fine w O ba room l x t h0 h1 h ht hl
  · simp only [if_neg hl]
    refine (get_big w O ba room l x t h0 h1 h ht hl).mono ?_
    rintro e w' ⟨rfl, hB⟩
    exact ⟨⟨none, 0, rfl, row_nil _ _ _ _⟩, hB⟩
theorem tells_cells {L : List ObjA} (hw : WfA L) (hc : ∀ o ∈ L, WfC o.cell) {ws : List Int} {t : List CellD} (h : Tells L ws t) : ∀ c ∈ t, cellE c = 0 ∧ WfC c := by
  induction h with
  | nil => intro c hc'; cases hc'
  | @cons w ws c ps t hs _ ih =>
    intro d hd
    rcases List.mem_cons.1 hd with rfl | hd
    · rcases seen_obj hs with ⟨_, rfl, _⟩ | ⟨k, hk, _, rfl, _⟩
      · unfold cellW
        split
        · exact ⟨by decide, by decide, by decide, by decide⟩
        · refine ⟨?_, ?_, ?_, ?_⟩
          · simp [cellE, ByteArray.size]
          · simp only [valW]; omega
          · simp only [valW]; omega
          · simp [ByteArray.size]
      · exact ⟨(hw k hk).good, hc _ (List.getElem_mem hk)⟩
    · exact ih d hd
theorem seen_shape {L : List ObjA} (hw : WfA L) {x : Int} {c : CellD} {ps : List Int} (hs : seenA L x = some (c, ps)) : (c.kind = 5 → c.n = (ps.length : Int)) ∧ (c.kind = 7 → ps.length = 2) ∧ (c.kind ≠ 5 → c.kind ≠ 7 → ps.length = 0) := by
  rcases seen_obj hs with ⟨_, rfl, rfl⟩ | ⟨k, hk, _, rfl, rfl⟩
  · unfold cellW
    split <;> simp
  · have hg := (hw k hk).good
    have hkk := (hw k hk).kids
    refine ⟨fun h5 => ?_, fun h7 => ?_, fun h5 h7 => ?_⟩
    · have := cellE_tuple hg h5
      rw [hkk]
      unfold kidsD
      rw [if_neg (by omega), if_pos ⟨h5, this⟩, Int.toNat_of_nonneg this.1]
    · rw [hkk]; unfold kidsD; rw [if_pos h7]
    · rw [hkk]; unfold kidsD; rw [if_neg h7, if_neg (fun e => h5 e.1)]
theorem seen_is {L : List ObjA} (x : Int) : (seenA L x).isSome = (findA L x).isSome := by
  unfold seenA
  cases hf : findA L x with
  | none => rfl
  | some k =>
    have hk := findA_lt hf
    simp only
    split
    · rfl
    · rw [List.getElem?_eq_getElem (by omega)]; rfl
theorem tabs_size {w : World} (h : TabsA w) : 3 ≤ w.heap.size := by
  have h2 := cell_lt (h.utf.2 0 (by omega)).1
  simp at h2
  omega
theorem count_any (n : Int) (m : Nat) (w : World) (hm : 1 ≤ m) (hm2 : m ≤ 4611686018427387904) (hn : -9223372036854775808 ≤ n ∧ n < 9223372036854775808) : Calls Tryd.prog 43 #[.int .i64 n, .int .i64 (m : Int)] w fun e w' => ∃ k : Nat, k < m ∧ e = .returned (.int .i64 (k : Int)) ∧ w = w' := by
  obtain ⟨k, hk, he⟩ : ∃ k : Nat, k < m ∧ (if Int.tmod n m < 0 then Int.tmod n m + m else Int.tmod n m) = (k : Int) := by
    have h1 := Int.tmod_lt_of_pos n (show (0 : Int) < m by omega)
    have h2 := Int.lt_tmod_of_pos n (show (0 : Int) < m by omega)
    refine ⟨(if Int.tmod n m < 0 then Int.tmod n m + m else Int.tmod n m).toNat, ?_, ?_⟩ <;> split <;> omega
  have hm0 : ((m : Int) == 0) = false := beq_eq_false_iff_ne.2 (by omega)
  have hm1 : (m : Int) ≠ 0 := by omega
  have hm3 : m ≠ 0 := by omega
  have h1 := Int.tmod_lt_of_pos n (show (0 : Int) < m by omega)
  have h2 := Int.lt_tmod_of_pos n (show (0 : Int) < m by omega)
  by_cases h : Int.tmod n m < 0
  · rw [if_pos h] at he
    have d1 : decide (Int.tmod n m < 0) = true := decide_eq_true h
    have HE := Lib.hid he
    have w1 : IntKind.i64.wrap (Int.tmod n m) = Int.tmod n m := by rw [IntKind.wrap_i64]; omega
    have w2 : IntKind.i64.wrap (Int.tmod n m + m) = Int.tmod n m + m := by rw [IntKind.wrap_i64]; omega
    go_enter Tryd.func43, Tryd.ntmps43
    go_wp2
    go_ret
    exact ⟨k, hk, by first | rfl | (simp [HE.out]) | (simp [← HE.out, w2]), rfl⟩
  · rw [if_neg h] at he
    have d1 : decide (Int.tmod n m < 0) = false := decide_eq_false h
    have HE := Lib.hid he
    have w1 : IntKind.i64.wrap (Int.tmod n m) = Int.tmod n m := by rw [IntKind.wrap_i64]; omega
    go_enter Tryd.func43, Tryd.ntmps43
    go_wp2
    go_ret
    exact ⟨k, hk, by first | rfl | (simp [HE.out]) | (simp [← HE.out]), rfl⟩
theorem made_fr {w w' : World} {O : Nat → Prop} {ba room : Nat} {l : List ObjA} (h : Made w w' O ba room l) : Fr O w w' := by
  obtain ⟨_, _, _, _, hf⟩ := h
  exact hf
theorem make_cells {l : List ObjA} {c : CellD} {ws : List Int} (hl : ∀ o ∈ l, WfC o.cell) (hc : WfC c) : ∀ o ∈ (makeA l c ws).1, WfC o.cell := by
  unfold makeA
  split
  · exact hl
  · split
    · exact hl
    · intro o ho
      rcases List.mem_append.1 ho with h | h
      · exact hl o h
      · obtain rfl : o = ⟨c, ws, sizesA l ws⟩ := by simpa using h
        exact hc
theorem up_cells {Q : CellD → Prop} : ∀ (st : List OpenA) (l : List ObjA) (x : Int), (∀ o ∈ l, Q o.cell) → (∀ p ∈ st, Q p.cell) → (∀ o ∈ (upA l st x).1, Q o.cell) ∧ ∀ p ∈ (upA l st x).2.1, Q p.cell
  | [], l, x, hl, hs => ⟨hl, hs⟩
  | o :: st, l, x, hl, hs => by
    unfold upA
    split
    · refine ⟨hl, fun p hp => ?_⟩
      rcases List.mem_cons.1 hp with rfl | hp
      · exact hs o (by simp)
      · exact hs p (by simp [hp])
    · refine up_cells st _ _ ?_ (fun p hp => hs p (by simp [hp]))
      unfold makeA
      split
      · exact hl
      · split
        · exact hl
        · intro q hq
          rcases List.mem_append.1 hq with h | h
          · exact hl q h
          · rw [List.mem_singleton.1 h]; exact hs o (by simp)
theorem putF_cells {Q : CellD → Prop} : ∀ (t : List CellD) (s : List ObjA × List OpenA × Int), (∀ c ∈ t, Q c) → (∀ o ∈ s.1, Q o.cell) → (∀ p ∈ s.2.1, Q p.cell) → ∀ o ∈ (t.foldl putStep s).1, Q o.cell
  | [], s, _, h1, _ => h1
  | c :: t, s, hc, h1, h2 => by
    rw [List.foldl_cons]
    have hq := hc c (by simp)
    have key : (∀ o ∈ (putStep s c).1, Q o.cell) ∧ ∀ p ∈ (putStep s c).2.1, Q p.cell := by
      unfold putStep
      split
      · refine ⟨h1, fun p hp => ?_⟩
        rcases List.mem_cons.1 hp with rfl | hp
        · exact hq
        · exact h2 p hp
      · refine up_cells _ _ _ ?_ h2
        unfold makeA
        split
        · exact h1
        · split
          · exact h1
          · intro q hq'
            rcases List.mem_append.1 hq' with h | h
            · exact h1 q h
            · rw [List.mem_singleton.1 h]; exact hq
    exact putF_cells t _ (fun d hd => hc d (by simp [hd])) key.1 key.2
/-- What a Put leaves. -/
structure PutOk (room : Nat) (L : List ObjA) (t : List CellD) : Prop where
  ext : Ext L (putL room L t)
  cells : (∀ o ∈ L, WfC o.cell) → (∀ c ∈ t, WfC c) → ∀ o ∈ putL room L t, WfC o.cell
  ok : putE room L t = 0 → FindOk (putL room L t) (putX room L t) ∧ Tells (putL room L t) [putX room L t] t ∧ usedA (putL room L t) = usedA L + totalA t ∧ t.length ≤ 1024
  bad : putE room L t ≠ 0 → putL room L t = L ∧ putX room L t = 0
theorem put_ok {room : Nat} {L : List ObjA} (t : List CellD) (hw : WfA L) (hr : room ≤ 262144) (hu : usedA L ≤ room) : PutOk room L t := by
  by_cases h : putE room L t = 0
  · have e1 : putL room L t = (putF L t).1 := by unfold putL; rw [if_pos h]
    have e2 : putX room L t = (putF L t).2.2 := by unfold putX; rw [if_pos h]
    have h0 : (rightE t).1 = 0 := by
      unfold putE at h
      split at h
      · exact h
      · rename_i h'; simpa using h'
    obtain ⟨hg, hl0, hl1⟩ := rightE_ok h0
    have hf : ¬ (room : Int) - (usedA L : Int) < (totalA t : Int) := by
      unfold putE at h
      rw [if_neg (by simp [h0])] at h
      intro hc
      rw [if_pos hc] at h
      omega
    have S := put_spec hw hg hl0 (by omega)
    refine ⟨by rw [e1]; exact S.ext, fun h1 h2 => ?_, fun _ => ?_, fun hc => absurd h hc⟩
    · rw [e1]; exact putF_cells t (L, [], 0) h2 h1 (fun p hp => by cases hp)
    · rw [e1, e2]; exact ⟨S.fx, S.tell, S.used, hl1⟩
  · have e1 : putL room L t = L := by unfold putL; rw [if_neg h]
    have e2 : putX room L t = 0 := by unfold putX; rw [if_neg h]
    exact ⟨by rw [e1]; exact Ext.refl L, fun h1 _ => by rw [e1]; exact h1, fun hc => absurd hc h, fun _ => ⟨e1, e2⟩⟩
/-- What a hold leaves. -/
structure HoldOk (room : Nat) (L : List ObjA) (c : CellD) (ys : List Int) : Prop where
  ext : Ext L (holdL room L c ys)
  cells : (∀ o ∈ L, WfC o.cell) → ∀ o ∈ holdL room L c ys, WfC o.cell
  ok : holdE room L c ys = 0 → FindOk (holdL room L c ys) (holdX room L c ys)
theorem hold_ok {room : Nat} {L : List ObjA} {c : CellD} {ys : List Int} (hw : WfA L) (he : cellE c = 0) (hc : WfC c) (hr : room ≤ 262144) (hu : usedA L ≤ room) : HoldOk room L c ys := by
  refine ⟨?_, fun hl => ?_, fun h => ?_⟩
  · unfold holdL
    split
    · exact makeA_ext L c ys
    · exact Ext.refl L
  · unfold holdL
    split
    · exact make_cells hl hc
    · exact hl
  · have hlt : ¬ (room : Int) - (usedA L : Int) < (costC c : Int) := by
      intro hc
      unfold holdE at h
      split at h
      · omega
      · first | (rw [if_pos hc] at h; omega) | omega
    unfold holdL holdX
    rw [if_pos h, if_pos h]
    exact make_find hw he (by omega)
end Go.Proofs.YthgnihckeckaiaaDoor.Tm
