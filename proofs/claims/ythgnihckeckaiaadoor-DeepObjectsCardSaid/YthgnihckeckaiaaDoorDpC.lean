/- deep's calls on terms: term, Cells, Copy, Equal, Shared; the document's Cost, Cells. -/
import Derived.Test.YthgnihckeckaiaaDoorDpU
import Derived.Test.YthgnihckeckaiaaDoorDpR
import Derived.Test.YthgnihckeckaiaaDoorSameW
namespace Go.Proofs.YthgnihckeckaiaaDoor.Tm
open Go.RowKit
set_option linter.unusedVariables false
set_option linter.unusedSimpArgs false

/-- What Get answers. -/
def GetAns (L : List ObjA) (x : Int) (t : List CellD) (er : Int) : Prop := (findA L x = none ∧ t = [] ∧ er = 31) ∨ (∃ u, Tells L [x] u ∧ t = ttOf u ∧ er = erOf u)
theorem get_ans {L : List ObjA} (hw : WfA L) (x : Int) : ∃ t er, GetAns L x t er := by
  cases hf : findA L x with
  | none => exact ⟨[], 31, .inl ⟨hf, rfl, rfl⟩⟩
  | some k =>
    obtain ⟨u, hu⟩ := tells_exists hw (x := x) (by rw [hf]; rfl)
    exact ⟨_, _, .inr ⟨u, hu, rfl, rfl⟩⟩
theorem tells_isfind {L : List ObjA} {x : Int} {u : List CellD} (h : Tells L [x] u) : (findA L x).isSome = true := by
  cases h with
  | cons hs _ =>
    obtain ⟨k, hk⟩ := seen_find hs
    rw [hk]; rfl
theorem GetAns.facts {L : List ObjA} {x : Int} {t : List CellD} {er : Int} (h : GetAns L x t er) : (er = 0 ∨ er = 7 ∨ er = 31) ∧ (er = 0 → Tells L [x] t ∧ t.length ≤ 1024) ∧ (er ≠ 0 → t = []) ∧ (er = 31 ↔ findA L x = none) ∧ t.length ≤ 1024 := by
  rcases h with ⟨h1, rfl, rfl⟩ | ⟨u, hu, rfl, rfl⟩
  · exact ⟨by omega, by omega, fun _ => rfl, ⟨fun _ => h1, fun _ => rfl⟩, by simp⟩
  · have hf := tells_isfind hu
    have hn : findA L x ≠ none := fun e => by rw [e] at hf; cases hf
    by_cases hl : u.length ≤ 1024
    · rw [show ttOf u = u by unfold ttOf; rw [if_pos hl], show erOf u = 0 by unfold erOf; rw [if_pos hl]]
      exact ⟨by omega, fun _ => ⟨hu, hl⟩, fun h => absurd rfl h, ⟨fun e => by omega, fun e => absurd e hn⟩, hl⟩
    · rw [show ttOf u = [] by unfold ttOf; rw [if_neg hl], show erOf u = 7 by unfold erOf; rw [if_neg hl]]
      exact ⟨by omega, fun h => by omega, fun _ => rfl, ⟨fun e => by omega, fun e => absurd e hn⟩, by simp⟩
theorem GetAns.det {L : List ObjA} {x : Int} {t t' : List CellD} {er er' : Int} (h : GetAns L x t er) (h' : GetAns L x t' er') : t = t' ∧ er = er' := by
  rcases h with ⟨h1, rfl, rfl⟩ | ⟨u, hu, rfl, rfl⟩
  · rcases h' with ⟨_, rfl, rfl⟩ | ⟨u, hu, _, _⟩
    · exact ⟨rfl, rfl⟩
    · have := tells_isfind hu; rw [h1] at this; cases this
  · rcases h' with ⟨h1, _, _⟩ | ⟨u', hu', rfl, rfl⟩
    · have := tells_isfind hu; rw [h1] at this; cases this
    · rw [hu.det hu']; exact ⟨rfl, rfl⟩
theorem GetAns.cells {L : List ObjA} {x : Int} {t : List CellD} {er : Int} (h : GetAns L x t er) (hw : WfA L) (hc : ∀ o ∈ L, WfC o.cell) : ∀ c ∈ t, cellE c = 0 ∧ WfC c := by
  rcases h with ⟨_, rfl, _⟩ | ⟨u, hu, rfl, _⟩
  · intro c hc'; cases hc'
  · unfold ttOf
    split
    · exact tells_cells hw hc hu
    · intro c hc'; cases hc'
theorem getv_any (w : World) (O : Nat → Prop) (ba room : Nat) (L : List ObjA) (x : Int) (t : List CellD) (er : Int) (h0 : 0 ≤ x) (h1 : x < 18446744073709551616) (h : ArAt w O ba room L) (ha : GetAns L x t er) :
    Calls Tryd.prog 24 #[.pointer (some ⟨ba, 0, none⟩), .int .u64 x] w fun e w' => (∃ A c, e = .returned (.tuple #[.slice A t.length c, .int .i64 er]) ∧ w'.ownsRow w.heap.size 40 3 (.slice A t.length c) t.length (encs t)) ∧ Below w.heap.size w w' := by
  rcases ha with ⟨h2, rfl, rfl⟩ | ⟨u, hu, rfl, rfl⟩
  · refine (get_none w O ba room L x h0 h1 h (seen_none h2)).mono ?_
    rintro e w' ⟨rfl, hB⟩
    exact ⟨⟨none, 0, rfl, row_nil _ _ _ _⟩, hB⟩
  · exact get_tt w O ba room L x u h0 h1 h hu
theorem term_any (w : World) (O : Nat → Prop) (ba room : Nat) (L : List ObjA) (x : Int) (t : List CellD) (er : Int) (h0 : 0 ≤ x) (h1 : x < 18446744073709551616) (h : ArAt w O ba room L) (ha : GetAns L x t er) :
    Calls Tryd.prog 76 #[.pointer (some ⟨ba, 0, none⟩), .int .u64 x] w fun e w' => (∃ A c, e = .returned (.tuple #[.slice A t.length c, .int .i64 er]) ∧ w'.ownsRow w.heap.size 40 3 (.slice A t.length c) t.length (encs t)) ∧ Below w.heap.size w w' := by
  have hg := getv_any w O ba room L x t er h0 h1 h ha
  clear h ha
  go_enter Tryd.func76, Tryd.ntmps76
  go_wp2_with fail
  refine hg.mono ?_
  rintro e w1 ⟨⟨A, c, rfl, hr⟩, hB⟩
  go_wp2
  go_ret2
  exact ⟨⟨A, c, rfl, hr⟩, hB⟩
theorem term_nil (w : World) (x : Int) : Calls Tryd.prog 76 #[.pointer none, .int .u64 x] w fun e w' => e = .returned (.tuple #[.slice none 0 0, .int .i64 2]) ∧ w' = w := by
  go_enter Tryd.func76, Tryd.ntmps76
  go_wp2
  go_ret2
  exact ⟨rfl, rfl⟩
theorem tot_le {l : List CellD} (h : ∀ c ∈ l, cellE c = 0) : totalA l ≤ 384 * l.length := total_le h
set_option maxHeartbeats 2000000 in
theorem dcells_any (w : World) (O : Nat → Prop) (ba room : Nat) (L : List ObjA) (x : Int) (t : List CellD) (er : Int) (h0 : 0 ≤ x) (h1 : x < 18446744073709551616) (h : ArAt w O ba room L) (hcl : ∀ o ∈ L, WfC o.cell) (ha : GetAns L x t er) :
    Calls Tryd.prog 30 #[.pointer (some ⟨ba, 0, none⟩), .int .u64 x] w fun e w' => e = .returned (.tuple #[.int .i64 (totalA t : Int), .int .i64 er]) ∧ Below w.heap.size w w' := by
  have ht := term_any w O ba room L x t er h0 h1 h ha
  obtain ⟨f1, f2, f3, f4, f5⟩ := ha.facts
  have HC := Lib.hid (ha.cells h.wf hcl)
  have htl := tot_le (fun c hc => (HC.out c hc).1)
  clear h ha hcl
  by_cases he : er = 0
  · subst he
    clear f1 f2 f3 f4
    go_enter Tryd.func30, Tryd.ntmps30
    go_wp2_with fail
    refine ht.mono ?_
    rintro e w1 ⟨⟨A, c, rfl, hrow⟩, hB⟩
    have HB := Lib.hid hB
    have HR := Lib.hid (Reads.of_row hrow)
    clear hB hrow ht
    go_wp2_with fail
    go_loopw [8, 22] (fun s i wr => ∃ j : Nat, j ≤ t.length ∧ s = .int .i64 (totalA (t.take j) : Int) ∧ i = .int .i64 (j : Int) ∧ Hid (Below w1.heap.size w1 wr)) (fun s i wr => t.length - (intOf i).toNat)
    case atStart => exact ⟨0, Nat.zero_le _, rfl, rfl, Lib.hid (Below.refl _ _)⟩
    case round =>
      obtain ⟨j, hj, rfl, rfl, hB⟩ := hrel
      by_cases hlt : j < t.length
      · obtain ⟨b, o, rfl, hc⟩ := HR.out j hlt
        obtain ⟨hc0, hc1, hc2⟩ := hc.below hB.out
        have hcw := HC.out t[j] (List.getElem_mem hlt)
        have htk := Lib.hid (tot_take hlt)
        have hle := total_take_le t (j + 1)
        rw [htk.out] at hle
        generalize totalA (t.take j) = S0 at *
        generalize t[j] = d at *
        have hB0 := below_one wr (.cells #[.int .i64 d.kind, .int .i64 d.n, .string d.text] 40)
        go_wp2_with fail
        refine (dcost_any d _ hcw.2 hcw.1).mono ?_
        rintro e w2 ⟨rfl, hb⟩
        have HB2 := Lib.hid (below_then hB.out (below_then hB0 hb))
        generalize costC d = S1 at *
        clear hcw hb hB0 hc hc0 hc1 hc2
        go_wp2
        go_roundw
        case rel => exact ⟨j + 1, by omega, by rw [htk.out]; go_num, by go_num, HB2⟩
        case measure => simp [intOf]; omega
      · obtain rfl : j = t.length := by omega
        rw [List.take_length]
        go_wp2
        go_ret2
        exact ⟨rfl, below_then HB.out hB.out⟩
  · have e0 := f3 he
    subst e0
    have eb : (er != 0) = true := by rw [bne_iff_ne]; exact he
    clear f1 f2 f3 f4 he
    go_enter Tryd.func30, Tryd.ntmps30
    go_wp2_with fail
    refine ht.mono ?_
    rintro e w1 ⟨⟨A, c, rfl, hrow⟩, hB⟩
    clear hrow ht
    go_wp2
    go_ret2
    exact ⟨by first | rfl | simp [totalA], hB⟩
theorem dcells_nil (w : World) (x : Int) : Calls Tryd.prog 30 #[.pointer none, .int .u64 x] w fun e w' => e = .returned (.tuple #[.int .i64 0, .int .i64 2]) ∧ w' = w := by
  have ht := term_nil w x
  go_enter Tryd.func30, Tryd.ntmps30
  go_wp2_with fail
  refine ht.mono ?_
  rintro e w1 ⟨rfl, rfl⟩
  go_wp2
  go_ret2
  exact ⟨rfl, rfl⟩
set_option maxHeartbeats 2000000 in
theorem shared_any (w : World) (O : Nat → Prop) (ba room : Nat) (L : List ObjA) (x : Int) (t : List CellD) (er : Int) (h0 : 0 ≤ x) (h1 : x < 18446744073709551616) (h : ArAt w O ba room L) (hT : TabsA w) (hcl : ∀ o ∈ L, WfC o.cell) (ha : GetAns L x t er) :
    Calls Tryd.prog 40 #[.pointer (some ⟨ba, 0, none⟩), .int .u64 x] w fun e w' => e = .returned (.tuple #[.int .i64 (if er = 0 then (totalA t : Int) - (costsW L (visW L [] x) : Int) else 0), .int .i64 er]) ∧ Below w.heap.size w w' := by
  have hd := dcells_any w O ba room L x t er h0 h1 h hcl ha
  obtain ⟨f1, f2, f3, f4, f5⟩ := ha.facts
  have htl := tot_le (fun c hc => (ha.cells h.wf hcl c hc).1)
  have HA := Lib.hid h
  have HT := Lib.hid hT
  have HCL := Lib.hid hcl
  by_cases he : er = 0
  · subst he
    have hfx : FindOk L x := ⟨tells_isfind (f2 rfl).1, h0, h1⟩
    have hre : reachE L [x] = 0 ∧ reachN L [x] = costsW L (visW L [] x) := by
      have hall : allFind L [x] = true := by unfold allFind; simp [hfx.1]
      exact ⟨by unfold reachE; rw [if_pos hall], by unfold reachN; rw [if_pos hall]; rfl⟩
    have hmo := fold_find h.wf (roots := [x]) (fun y hy => by rw [List.mem_singleton.1 hy]; exact hfx)
    have hcb := costsW_le h.wf hcl (visW L [] x)
    have hml : (visW L [] x).length ≤ L.length := hmo.len
    have hlims := h.lims
    have hll := h.wf.len
    obtain ⟨K, hK⟩ : ∃ K, costsW L (visW L [] x) = K := ⟨_, rfl⟩
    rw [hK] at hre hcb ⊢
    have HRE := Lib.hid hre
    clear f1 f2 f3 f4 h hT hcl ha hmo hre hK
    go_enter Tryd.func40, Tryd.ntmps40
    go_wp2_with fail
    refine hd.mono ?_
    rintro e w1 ⟨rfl, hB⟩
    have hb2 := below_alloc' hB (.cells #[.int .u64 x] 27)
    have hrc := reach_any (w1.alloc (.cells #[.int .u64 x] 27)) O ba room L [x] (some ⟨w1.heap.size, 0, none⟩) 1 (HA.out.below hb2) (HT.out.below hb2) HCL.out
      (fun j hj => by
        have e : j = 0 := by simpa using hj
        subst e
        exact ⟨w1.heap.size, 0, rfl, BlkIs.cell (show BlkIs (w1.alloc (.cells #[.int .u64 x] 27)) w1.heap.size #[.int .u64 x] 27 from heap_alloc_new w1 _) 0 rfl⟩)
      (fun y hy => by rw [List.mem_singleton.1 hy]; exact ⟨h0, h1⟩) (fun b o e => by cases e; rw [World.size_alloc]; omega) (by simp)
    rw [HRE.out.1, HRE.out.2] at hrc
    have hrc2 : Calls Tryd.prog 37 #[.pointer (some ⟨ba, 0, none⟩), .slice (some ⟨w1.heap.size, 0, none⟩) 1 1] _ _ := hrc
    have hwr : IntKind.i64.wrap ((totalA t : Int) - (K : Int)) = (totalA t : Int) - (K : Int) := by rw [IntKind.wrap_i64]; omega
    clear hrc hd
    go_wp2_with fail
    refine hrc2.mono ?_
    rintro e w2 ⟨rfl, hB2⟩
    go_wp2
    go_ret2
    exact ⟨by first | rfl | simp, below_then hb2 hB2⟩
  · have e0 := f3 he
    subst e0
    have eb : (er != 0) = true := by rw [bne_iff_ne]; exact he
    clear f1 f2 f3 f4 h hT hcl ha
    go_enter Tryd.func40, Tryd.ntmps40
    go_wp2_with fail
    refine hd.mono ?_
    rintro e w1 ⟨rfl, hB⟩
    go_wp2
    go_ret2
    exact ⟨by first | rfl | simp [he], hB⟩
theorem shared_nil (w : World) (x : Int) : Calls Tryd.prog 40 #[.pointer none, .int .u64 x] w fun e w' => e = .returned (.tuple #[.int .i64 0, .int .i64 2]) ∧ w' = w := by
  have ht := dcells_nil w x
  go_enter Tryd.func40, Tryd.ntmps40
  go_wp2_with fail
  refine ht.mono ?_
  rintro e w1 ⟨rfl, rfl⟩
  go_wp2
  go_ret2
  exact ⟨rfl, rfl⟩
theorem reach_nil (w : World) (A : Option Addr) (n c : Nat) : Calls Tryd.prog 37 #[.pointer none, .slice A n c] w fun e w' => e = .returned (.tuple #[.int .i64 0, .int .i64 2]) ∧ Below w.heap.size w w' := by
  have hB := below_one w (.cells #[.pointer none] 24)
  go_enter Tryd.func37, Tryd.ntmps37
  go_wp2
  go_ret2
  exact ⟨rfl, hB⟩
def copyE (room2 : Nat) (L2 : List ObjA) (t : List CellD) (er : Int) : Int := if er = 0 then putE room2 L2 t else er
def copyX (room2 : Nat) (L2 : List ObjA) (t : List CellD) (er : Int) : Int := if er = 0 then putX room2 L2 t else 0
def copyL (room2 : Nat) (L2 : List ObjA) (t : List CellD) (er : Int) : List ObjA := if er = 0 then putL room2 L2 t else L2
set_option maxHeartbeats 1000000 in
theorem copy_any (w : World) (O O2 : Nat → Prop) (ba room bb room2 : Nat) (L L2 : List ObjA) (x : Int) (t : List CellD) (er : Int) (h0 : 0 ≤ x) (h1 : x < 18446744073709551616) (h : ArAt w O ba room L) (h2 : ArAt w O2 bb room2 L2) (hT : TabsA w) (hcl : ∀ o ∈ L, WfC o.cell) (ha : GetAns L x t er) :
    Calls Tryd.prog 42 #[.pointer (some ⟨ba, 0, none⟩), .int .u64 x, .pointer (some ⟨bb, 0, none⟩)] w fun e w' => e = .returned (.tuple #[.int .u64 (copyX room2 L2 t er), .int .i64 (copyE room2 L2 t er)]) ∧ Made w w' O2 bb room2 (copyL room2 L2 t er) := by
  have hg := getv_any w O ba room L x t er h0 h1 h ha
  obtain ⟨f1, f2, f3, f4, f5⟩ := ha.facts
  have HC := Lib.hid (ha.cells h.wf hcl)
  have H2 := Lib.hid h2
  have HT := Lib.hid hT
  clear h h2 hT hcl ha
  by_cases he : er = 0
  · subst he
    have HE := Lib.hid (⟨by unfold copyE; rw [if_pos rfl], by unfold copyX; rw [if_pos rfl], by unfold copyL; rw [if_pos rfl]⟩ : copyE room2 L2 t 0 = putE room2 L2 t ∧ copyX room2 L2 t 0 = putX room2 L2 t ∧ copyL room2 L2 t 0 = putL room2 L2 t)
    clear f1 f2 f3 f4
    go_enter Tryd.func42, Tryd.ntmps42
    go_wp2_with fail
    refine hg.mono ?_
    rintro e w1 ⟨⟨A, c, rfl, hrow⟩, hB⟩
    have hput := put_any w1 O2 bb room2 L2 t A c (H2.out.below hB) (HT.out.below hB) (Reads.of_row hrow) (fun hn g o e ho => by
      subst e
      have hg := row_base hrow g (by
        rcases hrow.2 with ⟨e, _⟩ | ⟨g', c', cur, e, _⟩
        · cases e
        · injection e with e1 _ _
          injection e1 with e1
          injection e1 with e1 e2 _
          subst e1
          subst e2
          rfl)
      have := (H2.out.lim g ho).2
      omega) (fun j hj => (HC.out _ (List.getElem_mem hj)).2) (by omega)
    have HB := Lib.hid hB
    clear hg hrow hB
    go_wp2_with fail
    refine hput.mono ?_
    rintro e w2 ⟨rfl, hM⟩
    go_wp2
    go_ret2
    rw [HE.out.1, HE.out.2.1, HE.out.2.2]
    exact ⟨rfl, Made.pre HB.out hM⟩
  · have HE := Lib.hid (⟨by unfold copyE; rw [if_neg he], by unfold copyX; rw [if_neg he], by unfold copyL; rw [if_neg he]⟩ : copyE room2 L2 t er = er ∧ copyX room2 L2 t er = 0 ∧ copyL room2 L2 t er = L2)
    have eb : (er != 0) = true := by rw [bne_iff_ne]; exact he
    clear f1 f2 f3 f4 he
    go_enter Tryd.func42, Tryd.ntmps42
    go_wp2_with fail
    refine hg.mono ?_
    rintro e w1 ⟨⟨A, c, rfl, hrow⟩, hB⟩
    have HB := Lib.hid hB
    clear hg hrow hB
    go_wp2
    go_ret2
    rw [HE.out.1, HE.out.2.1, HE.out.2.2]
    exact ⟨rfl, Made.of_below H2.out HB.out⟩
theorem copy_from_nil (w : World) (x : Int) (p : Option Addr) : Calls Tryd.prog 42 #[.pointer none, .int .u64 x, .pointer p] w fun e w' => e = .returned (.tuple #[.int .u64 0, .int .i64 2]) ∧ w' = w := by
  go_enter Tryd.func42, Tryd.ntmps42
  go_wp2
  go_ret2
  exact ⟨rfl, rfl⟩
theorem copy_to_nil (w : World) (x : Int) (ba : Nat) : Calls Tryd.prog 42 #[.pointer (some ⟨ba, 0, none⟩), .int .u64 x, .pointer none] w fun e w' => e = .returned (.tuple #[.int .u64 0, .int .i64 2]) ∧ w' = w := by
  go_enter Tryd.func42, Tryd.ntmps42
  go_wp2
  go_ret2
  exact ⟨rfl, rfl⟩
theorem equal_nil1 (w : World) (x y : Int) (p : Option Addr) : Calls Tryd.prog 45 #[.pointer none, .int .u64 x, .pointer p, .int .u64 y] w fun e w' => e = .returned (.tuple #[.bool false, .int .i64 2]) ∧ w' = w := by
  go_enter Tryd.func45, Tryd.ntmps45
  go_wp2
  go_ret2
  exact ⟨rfl, rfl⟩
theorem equal_nil2 (w : World) (x y : Int) (ba : Nat) : Calls Tryd.prog 45 #[.pointer (some ⟨ba, 0, none⟩), .int .u64 x, .pointer none, .int .u64 y] w fun e w' => e = .returned (.tuple #[.bool false, .int .i64 2]) ∧ w' = w := by
  go_enter Tryd.func45, Tryd.ntmps45
  go_wp2
  go_ret2
  exact ⟨rfl, rfl⟩
/-- What Equal answers. -/
def equalE (e f : Int) : Int := if e = 31 ∨ f = 31 then 31 else if e ≠ 0 ∨ f ≠ 0 then 7 else 0
def equalB (t u : List CellD) (e f : Int) : Bool := if e = 0 ∧ f = 0 then decide (t = u) else false
theorem isSome_of {L : List ObjA} {x : Int} {t : List CellD} {er : Int} (h : GetAns L x t er) : (findA L x).isSome = decide (er ≠ 31) := by
  obtain ⟨_, _, _, f4, _⟩ := h.facts
  cases hf : findA L x with
  | none => rw [f4.2 hf]; rfl
  | some k =>
    have : er ≠ 31 := fun e => by rw [f4.1 e] at hf; cases hf
    simp [this]
set_option maxHeartbeats 2000000 in
theorem equal_any (w : World) (O O2 : Nat → Prop) (ba room bb room2 : Nat) (L L2 : List ObjA) (x y : Int) (t u : List CellD) (e f : Int) (hx : 0 ≤ x ∧ x < 18446744073709551616) (hy : 0 ≤ y ∧ y < 18446744073709551616) (h : ArAt w O ba room L) (h2 : ArAt w O2 bb room2 L2) (ha : GetAns L x t e) (hb : GetAns L2 y u f) :
    Calls Tryd.prog 45 #[.pointer (some ⟨ba, 0, none⟩), .int .u64 x, .pointer (some ⟨bb, 0, none⟩), .int .u64 y] w fun en w' => en = .returned (.tuple #[.bool (equalB t u e f), .int .i64 (equalE e f)]) ∧ Below w.heap.size w w' := by
  have i1 := isword_any w O ba room L x hx.1 hx.2 h
  have i2 := fun W (hB : Below w.heap.size w W) => isword_any W O2 bb room2 L2 y hy.1 hy.2 (h2.below hB)
  rw [isSome_of ha] at i1
  rw [isSome_of hb] at i2
  have g1 := fun W (hB : Below w.heap.size w W) => getv_any W O ba room L x t e hx.1 hx.2 (h.below hB) ha
  have g2 := fun W (hB : Below w.heap.size w W) => getv_any W O2 bb room2 L2 y u f hy.1 hy.2 (h2.below hB) hb
  obtain ⟨p1, p2, p3, p4, p5⟩ := ha.facts
  obtain ⟨q1, q2, q3, q4, q5⟩ := hb.facts
  clear h h2 ha hb
  by_cases e1 : e = 31
  · rw [decide_eq_false (fun hn => hn e1)] at i1
    have HE := Lib.hid (⟨by unfold equalE; rw [if_pos (.inl e1)], by unfold equalB; rw [if_neg (by omega)]⟩ : equalE e f = 31 ∧ equalB t u e f = false)
    clear p1 p2 p3 p4 q1 q2 q3 q4 g1 g2 i2 e1
    go_enter Tryd.func45, Tryd.ntmps45
    go_wp2_with fail
    refine i1.mono ?_
    rintro en w1 ⟨rfl, hB⟩
    go_wp2
    go_ret2
    rw [HE.out.1, HE.out.2]
    exact ⟨rfl, hB⟩
  · rw [decide_eq_true e1] at i1
    by_cases e2 : f = 31
    · have i2' := i2
      simp only [decide_eq_false (fun hn : f ≠ 31 => hn e2)] at i2'
      have HE := Lib.hid (⟨by unfold equalE; rw [if_pos (.inr e2)], by unfold equalB; rw [if_neg (by omega)]⟩ : equalE e f = 31 ∧ equalB t u e f = false)
      clear p1 p2 p3 p4 q1 q2 q3 q4 g1 g2 e1 e2 i2
      go_enter Tryd.func45, Tryd.ntmps45
      go_wp2_with fail
      refine i1.mono ?_
      rintro en w1 ⟨rfl, hB⟩
      have i3 := i2' w1 hB
      go_wp2_with fail
      refine i3.mono ?_
      rintro en w2 ⟨rfl, hB2⟩
      go_wp2
      go_ret2
      rw [HE.out.1, HE.out.2]
      exact ⟨rfl, below_then hB hB2⟩
    · have i2' := i2
      simp only [decide_eq_true (show f ≠ 31 from e2)] at i2'
      clear i2
      by_cases e3 : e = 0
      · subst e3
        by_cases e4 : f = 0
        · subst e4
          have HE := Lib.hid (⟨by unfold equalE; rw [if_neg (by omega), if_neg (by omega)], by unfold equalB; rw [if_pos (by omega)]⟩ : equalE 0 0 = 0 ∧ equalB t u 0 0 = decide (t = u))
          clear p1 p2 p3 p4 q1 q2 q3 q4 e1 e2
          go_enter Tryd.func45, Tryd.ntmps45
          go_wp2_with fail
          refine i1.mono ?_
          rintro en w1 ⟨rfl, hB⟩
          have i3 := i2' w1 hB
          go_wp2_with fail
          refine i3.mono ?_
          rintro en w2 ⟨rfl, hb2⟩
          have hB2 := below_then hB hb2
          have i4 := g1 w2 hB2
          go_wp2_with fail
          refine i4.mono ?_
          rintro en w3 ⟨⟨A3, c3, rfl, r3⟩, hb3⟩
          have hB3 := below_then hB2 hb3
          have i5 := g2 w3 hB3
          go_wp2_with fail
          refine i5.mono ?_
          rintro en w4 ⟨⟨A4, c4, rfl, r4⟩, hb4⟩
          have hB4 := below_then hB3 hb4
          have hsm := wsame_any A3 A4 c3 c4 t u w4 ((Reads.of_row r3).below hb4) (Reads.of_row r4) (by omega) (by omega)
          clear r3 r4 hb2 hb3 hb4 i3 i4 i5 g1 g2 i1 i2'
          go_wp2_with fail
          refine hsm.mono ?_
          rintro en w5 ⟨rfl, hb5⟩
          go_wp2
          go_ret2
          rw [HE.out.1, HE.out.2]
          exact ⟨rfl, below_then hB4 hb5⟩
        · have HE := Lib.hid (⟨by unfold equalE; rw [if_neg (by omega), if_pos (.inr e4)], by unfold equalB; rw [if_neg (by omega)]⟩ : equalE 0 f = 7 ∧ equalB t u 0 f = false)
          have eb : (f != 0) = true := by rw [bne_iff_ne]; exact e4
          clear p1 p2 p3 p4 q1 q2 q3 q4 e1 e2 e4
          go_enter Tryd.func45, Tryd.ntmps45
          go_wp2_with fail
          refine i1.mono ?_
          rintro en w1 ⟨rfl, hB⟩
          have i3 := i2' w1 hB
          go_wp2_with fail
          refine i3.mono ?_
          rintro en w2 ⟨rfl, hb2⟩
          have hB2 := below_then hB hb2
          have i4 := g1 w2 hB2
          go_wp2_with fail
          refine i4.mono ?_
          rintro en w3 ⟨⟨A3, c3, rfl, r3⟩, hb3⟩
          have hB3 := below_then hB2 hb3
          have i5 := g2 w3 hB3
          go_wp2_with fail
          refine i5.mono ?_
          rintro en w4 ⟨⟨A4, c4, rfl, r4⟩, hb4⟩
          have hB4 := below_then hB3 hb4
          go_wp2
          go_ret2
          rw [HE.out.1, HE.out.2]
          exact ⟨rfl, hB4⟩
      · have HE := Lib.hid (⟨by unfold equalE; rw [if_neg (by omega), if_pos (.inl e3)], by unfold equalB; rw [if_neg (by omega)]⟩ : equalE e f = 7 ∧ equalB t u e f = false)
        have eb : (e != 0) = true := by rw [bne_iff_ne]; exact e3
        clear p1 p2 p3 p4 q1 q2 q3 q4 e1 e2 e3
        go_enter Tryd.func45, Tryd.ntmps45
        go_wp2_with fail
        refine i1.mono ?_
        rintro en w1 ⟨rfl, hB⟩
        have i3 := i2' w1 hB
        go_wp2_with fail
        refine i3.mono ?_
        rintro en w2 ⟨rfl, hb2⟩
        have hB2 := below_then hB hb2
        have i4 := g1 w2 hB2
        go_wp2_with fail
        refine i4.mono ?_
        rintro en w3 ⟨⟨A3, c3, rfl, r3⟩, hb3⟩
        have hB3 := below_then hB2 hb3
        have i5 := g2 w3 hB3
        go_wp2_with fail
        refine i5.mono ?_
        rintro en w4 ⟨⟨A4, c4, rfl, r4⟩, hb4⟩
        have hB4 := below_then hB3 hb4
        go_wp2
        go_ret2
        rw [HE.out.1, HE.out.2]
        exact ⟨rfl, hB4⟩
end Go.Proofs.YthgnihckeckaiaaDoor.Tm
