/- Sweep's move.one. -/
import Derived.Test.YthgnihckeckaiaaDoorSwN
import Derived.Test.YthgnihckeckaiaaDoorSwQ
import Derived.Test.YthgnihckeckaiaaDoorSwD
import Derived.Deep.RegionHeld3
namespace Go.Proofs.YthgnihckeckaiaaDoor.Tm
open Go.RowKit
set_option linter.unusedVariables false
set_option linter.unusedSimpArgs false

/-- Two arenas and the map between them. -/
structure ColSt (fb tb bm roomF room : Nat) (O O' : Nat → Prop) (L L' : List ObjA) (d : List (Int × Int)) (W : World) : Prop where
  af : ArAt W O fb roomF L
  at_ : ArAt W O' tb room L'
  map : W.heap[bm]? = some (.map (entsP d) d.length)
  dis : ∀ k, O k → ¬ O' k
  nb : ¬ O bm
  nb' : ¬ O' bm
  lo : 3 ≤ bm
  tabs : TabsA W
theorem ColSt.below {fb tb bm roomF room : Nat} {O O' : Nat → Prop} {L L' : List ObjA} {d : List (Int × Int)} {W V : World} (h : ColSt fb tb bm roomF room O O' L L' d W) (hB : Below W.heap.size W V) : ColSt fb tb bm roomF room O O' L L' d V :=
  ⟨h.af.below hB, h.at_.below hB, (hB.block _ (lt_of_block h.map)).trans h.map, h.dis, h.nb, h.nb', h.lo, h.tabs.below hB⟩
/-- The new arena has grown; then the map. -/
theorem ColSt.made {fb tb bm roomF room : Nat} {O O' : Nat → Prop} {L L' L'' : List ObjA} {d : List (Int × Int)} {W V V2 : World} {x y : Int} (h : ColSt fb tb bm roomF room O O' L L' d W) (hM : Made W V O' tb room L'') (hm : V2.heap[bm]? = some (.map (entsP (d ++ [(x, y)])) (d ++ [(x, y)]).length)) (hg : V.grownBy V2 (some bm)) :
    ∃ O'', ColSt fb tb bm roomF room O O'' L L'' (d ++ [(x, y)]) V2 ∧ (∀ k, O' k → O'' k) ∧ (∀ k, O'' k → O' k ∨ W.heap.size ≤ k) ∧ Fr (fun k => O' k ∨ k = bm) W V2 := by
  obtain ⟨O'', a1, a2, a3, a4⟩ := hM
  have hfl := h.af.lim
  have hbl := lt_of_block h.map
  have f2 : Fr (fun k => k = bm) V V2 := Fr.of_grown hg fun k hk => by injection hk with hk; exact hk.symm
  have f3 : Fr (fun k => O' k ∨ k = bm) W V2 := (a4.mono fun i _ hi => .inl hi).trans (f2.mono fun i _ hi => .inr hi)
  have hnb2 : ¬ O'' bm := fun q => by
    rcases a3 bm q with q | q
    · exact h.nb' q
    · omega
  refine ⟨O'', ⟨h.af.fr f3 (fun k hk q => ?_), a1.fr f2 (fun k hk q => hnb2 (q ▸ hk)), hm, fun k hk q => ?_, h.nb, hnb2, h.lo, h.tabs.fr f3 (fun k hk => ?_)⟩, a2, a3, f3⟩
  · rcases q with q | q
    · exact h.dis k hk q
    · exact h.nb (q ▸ hk)
  · rcases a3 k q with q | q
    · exact h.dis k hk q
    · have := (hfl k hk).2; omega
  · rcases hk with hk | hk
    · exact (h.at_.lim k hk).1
    · rw [hk]; exact h.lo
/-- What one makes, by the kind of the object. -/
structure OneOk (L L' : List ObjA) (d : List (Int × Int)) (room : Nat) (x : Int) : Prop where
  len : ((partsW L x).map (wherM d)).length = kidsD (cellS (seenA L x))
  find : ∀ p ∈ (partsW L x).map (wherM d), FindOk L' p
  good : cellE (cellS (seenA L x)) = 0
  wfc : WfC (cellS (seenA L x))
  big : ¬ SmallC (cellS (seenA L x))
  used : usedA L' + costC (cellS (seenA L x)) ≤ room
  new : x ∉ d.map Prod.fst
theorem bytes_nil {t : ByteArray} (h : t.size = 0) : t = ⟨#[]⟩ := by
  cases t with
  | mk a =>
    congr
    exact Array.eq_empty_of_size_eq_zero h
theorem cell_tuple {c : CellD} {ps : List Int} (he : cellE c = 0) (hk : c.kind = 5) (hl : ps.length = kidsD c) : c = tupA ps.length ∧ ps.length ≤ 255 := by
  have hn := cellE_tuple he hk
  have ht := cellE_text he
  have hkd : kidsD c = c.n.toNat := by unfold kidsD; rw [if_neg (by omega), if_pos ⟨hk, hn.1, hn.2⟩]
  rw [hkd] at hl
  obtain ⟨k, n, t⟩ := c
  simp only at hk hn ht hl
  have h0 : t = ⟨#[]⟩ := bytes_nil (by omega)
  refine ⟨?_, by omega⟩
  unfold tupA
  rw [hk, h0, hl, Int.toNat_of_nonneg hn.1]
theorem cell_cons {c : CellD} (he : cellE c = 0) (hk : c.kind = 7) : c = consA := by
  have ht := cellE_text he
  obtain ⟨k, n, t⟩ := c
  simp only at hk ht
  have h0 : t = ⟨#[]⟩ := bytes_nil (by omega)
  have hn : n = 0 := by
    by_cases hn : n = 0
    · exact hn
    · exfalso
      rw [h0] at he
      simp [cellE, hk, hn, ByteArray.size] at he
  unfold consA
  rw [hk, hn, h0]
theorem one_hold {L L' : List ObjA} {d : List (Int × Int)} {room : Nat} {x : Int} (h : OneOk L L' d room x) : holdE room L' (cellS (seenA L x)) ((partsW L x).map (wherM d)) = 0 ∧ holdL room L' (cellS (seenA L x)) ((partsW L x).map (wherM d)) = (oneM L L' d x).1 ∧ holdX room L' (cellS (seenA L x)) ((partsW L x).map (wherM d)) = (oneM L L' d x).2 := by
  have ha : allFind L' ((partsW L x).map (wherM d)) = true := List.all_eq_true.2 fun p hp => (h.find p hp).1
  have hu := h.used
  have he : holdE room L' (cellS (seenA L x)) ((partsW L x).map (wherM d)) = 0 := by
    unfold holdE
    rw [ha, if_neg (by simp), if_neg (by omega)]
  refine ⟨he, ?_, ?_⟩
  · unfold holdL; rw [he, if_pos rfl]; rfl
  · unfold holdX; rw [he, if_pos rfl]; rfl
theorem one_leaf {L L' : List ObjA} {d : List (Int × Int)} {room : Nat} {x : Int} (h : OneOk L L' d room x) (h5 : (cellS (seenA L x)).kind ≠ 5) (h7 : (cellS (seenA L x)).kind ≠ 7) : leafE room L' (cellS (seenA L x)) = 0 ∧ leafL room L' (cellS (seenA L x)) = (oneM L L' d x).1 ∧ leafX room L' (cellS (seenA L x)) = (oneM L L' d x).2 := by
  have hn : ¬ ((cellS (seenA L x)).kind = 7 ∨ ((cellS (seenA L x)).kind = 5 ∧ 0 < (cellS (seenA L x)).n)) := fun e => e.elim h7 (fun e => h5 e.1)
  have hk := leaf_kids hn
  have hl := h.len
  rw [hk] at hl
  have hp := List.eq_nil_of_length_eq_zero hl
  have hu := h.used
  have he : leafE room L' (cellS (seenA L x)) = 0 := by
    unfold leafE
    rw [if_neg hn, if_neg (by rw [h.good]; simp), if_neg (by omega)]
  refine ⟨he, ?_, ?_⟩
  · unfold leafL oneM; rw [he, if_pos rfl, hp]
  · unfold leafX oneM; rw [he, if_pos rfl, hp]
set_option maxRecDepth 10000 in
set_option maxHeartbeats 8000000 in
theorem one_any (W : World) (fb tb bm roomF room : Nat) (O O' : Nat → Prop) (L L' : List ObjA) (d : List (Int × Int)) (x : Int) (hS : ColSt fb tb bm roomF room O O' L L' d W) (hx : FindOk L x) (h1 : OneOk L L' d room x) :
    Calls Tryd.prog 94 #[.agg #[.pointer (some ⟨fb, 0, none⟩), .pointer (some ⟨tb, 0, none⟩), .map (some bm)], .int .u64 x] W fun e V => (∃ v, e = .returned v) ∧ ∃ O'', ColSt fb tb bm roomF room O O'' L (oneM L L' d x).1 (d ++ [(x, (oneM L L' d x).2)]) V ∧ (∀ k, O' k → O'' k) ∧ (∀ k, O'' k → O' k ∨ W.heap.size ≤ k) ∧ Fr (fun k => O' k ∨ k = bm) W V := by
  have hpl := parts_len hS.af.wf x
  have hpo : ∀ p ∈ partsW L x, 0 ≤ p ∧ p < 18446744073709551616 := fun p hp => (parts_rank hS.af.wf hp).1.2
  have hOH := one_hold h1
  have hOL := one_leaf h1
  have hCT := fun h => cell_tuple h1.good h h1.len
  have hCC := fun h => cell_cons h1.good h
  have hB0 := below_one W (.cells #[.pointer (some ⟨fb, 0, none⟩), .pointer (some ⟨tb, 0, none⟩), .map (some bm)] 145)
  have B0 : BlkIs (W.alloc (.cells #[.pointer (some ⟨fb, 0, none⟩), .pointer (some ⟨tb, 0, none⟩), .map (some bm)] 145)) W.heap.size #[.pointer (some ⟨fb, 0, none⟩), .pointer (some ⟨tb, 0, none⟩), .map (some bm)] 145 := heap_new W _
  have m0 := B0.cell 0 (v := .pointer (some ⟨fb, 0, none⟩)) rfl
  have hce := acell_any _ O fb roomF L x hx.2.1 hx.2.2 (hS.af.below hB0)
  have hes : errS (seenA L x) = 0 := by
    obtain ⟨c, ps, hs⟩ := find_seen hx
    rw [hs]
    rfl
  have HS0 := Lib.hid (hS.below hB0)
  rw [hes] at hce
  have HN := h1
  obtain ⟨c, hc⟩ : ∃ c, cellS (seenA L x) = c := ⟨_, rfl⟩
  obtain ⟨P, hP⟩ : ∃ P, partsW L x = P := ⟨_, rfl⟩
  rw [hc] at hce hOH hOL hCT hCC
  rw [hP] at hpl hpo hOH hCT
  have HNE := Lib.hid h1.new
  have HLEN := Lib.hid h1.len
  have HFIND := Lib.hid h1.find
  have HG := Lib.hid h1.good
  have HWF := Lib.hid h1.wfc
  rw [hc] at HG HWF HLEN
  rw [hP] at HLEN HFIND
  obtain ⟨Q, hQ⟩ : ∃ Q, P.map (wherM d) = Q := ⟨_, rfl⟩
  rw [hQ] at hOH hCT HLEN HFIND
  have hql : Q.length = P.length := by rw [← hQ, List.length_map]
  obtain ⟨R, hR⟩ : ∃ R, oneM L L' d x = R := ⟨_, rfl⟩
  rw [hR] at hOH hOL ⊢
  have HPQ := Lib.hid hQ
  have HPP := Lib.hid hP
  have HOH := Lib.hid hOH
  have HOL := Lib.hid hOL
  have HCT := Lib.hid hCT
  have HCC := Lib.hid hCC
  have HX := Lib.hid hx
  have HPO := Lib.hid hpo
  have HS := Lib.hid hS
  have HB0 := Lib.hid hB0
  have HB := Lib.hid B0
  clear hS hx h1 hOH hOL hCT hCC hB0 B0 hes HN hc hP hQ hR hpo
  obtain ⟨w0, hw0⟩ : ∃ V, W.alloc (.cells #[.pointer (some ⟨fb, 0, none⟩), .pointer (some ⟨tb, 0, none⟩), .map (some bm)] 145) = V := ⟨_, rfl⟩
  rw [hw0] at hce HS0 HB0 HB m0
  simp only [CellD.agg] at hce
  go_enter Tryd.func94, Tryd.ntmps94
  go_wp2_with fail
  refine hce.mono ?_
  rintro e w2 ⟨rfl, hb2⟩
  have hB3 := below_alloc' hb2 (.cells #[.int .i64 c.kind, .int .i64 c.n, .string c.text] 40)
  have BC : BlkIs (w2.alloc (.cells #[.int .i64 c.kind, .int .i64 c.n, .string c.text] 40)) w2.heap.size #[.int .i64 c.kind, .int .i64 c.n, .string c.text] 40 := heap_new w2 _
  have BM := HB.out.below hB3
  have HS3 := Lib.hid (HS0.out.below hB3)
  have HB3 := Lib.hid (below_then HB0.out hB3)
  have hsz2 := hb2.size
  obtain ⟨cb, hcb⟩ : ∃ n, w2.heap.size = n := ⟨_, rfl⟩
  obtain ⟨mb, hmb⟩ : ∃ n, W.heap.size = n := ⟨_, rfl⟩
  obtain ⟨w3, hw3⟩ : ∃ V, w2.alloc (.cells #[.int .i64 c.kind, .int .i64 c.n, .string c.text] 40) = V := ⟨_, rfl⟩
  rw [hw3] at BC BM HS3 HB3
  rw [hcb] at BC
  rw [hmb] at BM m0
  clear hB3 HB HS0 HB0 hce hb2
  go_upto_region 2 with (fail)
  clear hw3 hw0 m0
  have n0 := BM.cell 0 (v := .pointer (some ⟨fb, 0, none⟩)) rfl
  have n1 := BM.cell 1 (v := .pointer (some ⟨tb, 0, none⟩)) rfl
  have n2 := BM.cell 2 (v := .map (some bm)) rfl
  have HBM := Lib.hid BM
  have HBC := Lib.hid BC
  have hheld := fun V (hb : Below w3.heap.size w3 V) => sheld_any V O fb roomF L x (HS3.out.af.below hb) HX.out.2.1 HX.out.2.2
  rw [HPP.out] at hheld
  have hmapd := fun V (hb : Below w3.heap.size w3 V) A c (hr : WReads V A P) => mapped_any V ⟨fb, 0, none⟩ ⟨tb, 0, none⟩ bm d P A c hr HPO.out (by omega) ((hb.block _ (lt_of_block HS3.out.map)).trans HS3.out.map)
  rw [HPQ.out] at hmapd
  clear BM BC
  go_cut [6] (fun s6 wx => ∃ A6 c6, s6 = .slice A6 P.length c6 ∧ Hid (WReads wx A6 Q) ∧ Hid (Below w3.heap.size w3 wx))
  case first =>
    go_region_held3 (fun w' => w'.cell? ⟨mb, 0, none⟩ = some (.pointer (some ⟨fb, 0, none⟩)) ∧ w'.cell? ⟨mb, 1, none⟩ = some (.pointer (some ⟨tb, 0, none⟩)) ∧ w'.cell? ⟨mb, 2, none⟩ = some (.map (some bm)) ∧ Below w3.heap.size w3 w')
      (first
        | exact ⟨n0, n1, n2, (Below.refl _ _).drew⟩
        | exact (fun hB' => ⟨cell_below hB' n0, cell_below hB' n1, cell_below hB' n2, hB'⟩) (below_then (by assumption) hbc)
        | exact (fun hB' => ⟨cell_below hB' n0, cell_below hB' n1, cell_below hB' n2, hB'⟩) (below_then (Below.drew (by assumption)) hbc)
        | go_keep)
      (first
        | (go_at_call 128; go_split_ands; refine (hheld _ (by assumption)).mono ?_; rintro e wc ⟨AP, cP, rfl, hH⟩; have hbc := hH.base; have HRP := Lib.hid (WReads.of_row hH.row))
        | (go_at_call 95; go_split_ands; refine (hmapd _ (by assumption) _ _ HRP.out).mono ?_; rintro e wc ⟨A6, c6, rfl, hH⟩; have hbc := hH.base; have HRQ := Lib.hid (show WReads wc A6 Q from by have h := hH.row; rw [← hql] at h; exact WReads.of_row h)))
    all_goals
      first
        | go_meet
        | (go_simp; refine ‹∀ (a' : Act) (w' : World), Met _ a' w' → _› _ _ ?_; go_meet)
    all_goals exact ⟨A6, c6, rfl, HRQ, Lib.hid (below_then (by assumption) hbc)⟩
  case rest =>
    obtain ⟨A6, c6, rfl, HRQ, HBX⟩ := hcut
    have HS6 := Lib.hid (HS3.out.below HBX.out)
    have HB6 := Lib.hid (below_then HB3.out HBX.out)
    have BM := HBM.out.below HBX.out
    have BC := HBC.out.below HBX.out
    have n0 := BM.cell 0 (v := .pointer (some ⟨fb, 0, none⟩)) rfl
    have n1 := BM.cell 1 (v := .pointer (some ⟨tb, 0, none⟩)) rfl
    have n2 := BM.cell 2 (v := .map (some bm)) rfl
    have k0 := BC.cell 0 (v := .int .i64 c.kind) rfl
    have k1 := BC.cell 1 (v := .int .i64 c.n) rfl
    have k2 := BC.cell 2 (v := .string c.text) rfl
    have hmbx : mb < wc.heap.size := BM.lt
    obtain ⟨w6, hw6⟩ : ∃ W, W = wc := ⟨_, rfl⟩
    subst hw6
    have hO' := HS6.out.at_.lim
    have hmO : ¬ O' mb := fun q => by have := (HS.out.at_.lim mb q).2; omega
    have HBM6 := Lib.hid BM
    have hput : ∀ (V V2 : World), Below w6.heap.size w6 V → Made V V2 O' tb room R.1 → BlkIs V2 mb #[.pointer (some ⟨fb, 0, none⟩), .pointer (some ⟨tb, 0, none⟩), .map (some bm)] 145 := fun V V2 hb hM => (HBM6.out.below hb).fr (made_fr hM) hmO
    have hmp : ∀ (V V2 : World), Below w6.heap.size w6 V → Made V V2 O' tb room R.1 → ∃ w9, (Instr.mapUpdate 143 (.map (some bm)) (.int .u64 x) (.int .u64 R.2)).run Tryd.prog V2 = .ok () w9 ∧ w9.heap[bm]? = some (.map (entsP (d ++ [(x, R.2)])) (d ++ [(x, R.2)]).length) ∧ V2.grownBy w9 (some bm) := fun V V2 hb hM => run_putP V2 bm d x R.2 (((made_fr hM).block bm (lt_of_block ((hb.block _ (lt_of_block HS6.out.map)).trans HS6.out.map)) HS6.out.nb').trans ((hb.block _ (lt_of_block HS6.out.map)).trans HS6.out.map)) HNE.out
    have hfin : ∀ (V V2 w9 : World), Below w6.heap.size w6 V → Made V V2 O' tb room R.1 → w9.heap[bm]? = some (.map (entsP (d ++ [(x, R.2)])) (d ++ [(x, R.2)]).length) → V2.grownBy w9 (some bm) → ∃ O'', ColSt fb tb bm roomF room O O'' L R.1 (d ++ [(x, R.2)]) w9 ∧ (∀ k, O' k → O'' k) ∧ (∀ k, O'' k → O' k ∨ W.heap.size ≤ k) ∧ Fr (fun k => O' k ∨ k = bm) W w9 := fun V V2 w9 hb hM hm hg => by
      obtain ⟨O'', a1, a2, a3, a4⟩ := HS6.out.made (Made.pre hb hM) hm hg
      have hsz := HB6.out.size
      exact ⟨O'', a1, a2, fun k hk => (a3 k hk).imp id (fun h => by omega), (Fr.of_below HB6.out).trans a4⟩
    have HPUT := Lib.hid hput
    have HMP := Lib.hid hmp
    have HFIN := Lib.hid hfin
    clear hput hmp hfin hheld hmapd BM BC hO' hmO HBM HBC
    by_cases h5 : c.kind = 5
    · have e5 : (c.kind == 5) = true := by rw [h5]; rfl
      obtain ⟨hct, hq5⟩ := HCT.out h5
      obtain ⟨g1, g2, g3⟩ := HOH.out
      have htup : ∀ V, Below w6.heap.size w6 V → Calls Tryd.prog 47 #[.pointer (some ⟨tb, 0, none⟩), .slice A6 P.length c6] V fun e w' => e = .returned (.tuple #[.int .u64 R.2, .int .i64 0]) ∧ Made V w' O' tb room R.1 := fun V hb => by
        have h := tuple_any V O' tb room L' Q A6 c6 (HS6.out.at_.below hb) (HS6.out.tabs.below hb) (HRQ.out.below hb) hq5 (fun p hp => (HFIND.out p hp).2)
        rw [← hct, g1, g2, g3, hql] at h
        exact h
      have HTUP := Lib.hid htup
      clear htup g1 g2 g3 hct hq5 h5 HOH HOL HCT HCC
      go_upto_region 5 with (fail)
      go_region_with (go_at_call 47; refine (HTUP.out _ (by first | exact (Below.refl _ _).drew | exact below_drewA (Below.refl _ _) _ | exact Below.refl _ _)).mono ?_; rintro e w7 ⟨rfl, hM⟩; have HM := Lib.hid hM; have BM7 := HPUT.out _ _ (by first | exact (Below.refl _ _).drew | exact below_drewA (Below.refl _ _) _ | exact Below.refl _ _) hM; have q0 := BM7.cell 0 (v := .pointer (some ⟨fb, 0, none⟩)) rfl; have q1 := BM7.cell 1 (v := .pointer (some ⟨tb, 0, none⟩)) rfl; have q2 := BM7.cell 2 (v := .map (some bm)) rfl; obtain ⟨w9, hup, hm9, hg9⟩ := HMP.out _ _ (by first | exact (Below.refl _ _).drew | exact below_drewA (Below.refl _ _) _ | exact Below.refl _ _) hM)
      all_goals
        go_simp
        go_end0
        exact ⟨⟨_, rfl⟩, HFIN.out _ _ _ (by first | exact (Below.refl _ _).drew | exact below_drewA (Below.refl _ _) _ | exact Below.refl _ _) HM.out hm9 hg9⟩
    · have e5 : (c.kind == 5) = false := beq_eq_false_iff_ne.2 h5
      by_cases h7 : c.kind = 7
      · have e7 : (c.kind == 7) = true := by rw [h7]; rfl
        have hcc := HCC.out h7
        obtain ⟨g1, g2, g3⟩ := HOH.out
        have hq2 : Q.length = 2 := by rw [HLEN.out, hcc]; rfl
        obtain ⟨y0, y1, hq⟩ : ∃ y0 y1, Q = [y0, y1] := by
          match Q, hq2 with
          | [a, b], _ => exact ⟨a, b, rfl⟩
        have hf0 := HFIND.out y0 (by rw [hq]; simp)
        have hf1 := HFIND.out y1 (by rw [hq]; simp)
        have hcon : ∀ V, Below w6.heap.size w6 V → Calls Tryd.prog 75 #[.pointer (some ⟨tb, 0, none⟩), .int .u64 y0, .int .u64 y1] V fun e w' => e = .returned (.tuple #[.int .u64 R.2, .int .i64 0]) ∧ Made V w' O' tb room R.1 := fun V hb => by
          have h := cons_any V O' tb room L' y0 y1 hf0.2 hf1.2 (HS6.out.at_.below hb) (HS6.out.tabs.below hb)
          rw [← hq, ← hcc, g1, g2, g3] at h
          exact h
        have HTUP := Lib.hid hcon
        obtain ⟨g, o, hA6, p0⟩ := HRQ.out 0 (by omega)
        obtain ⟨g', o', hA6', p1⟩ := HRQ.out 1 (by omega)
        subst hA6
        cases hA6'
        have e0 : Q[0]'(by omega) = y0 := by simp [hq]
        have e1 : Q[1]'(by omega) = y1 := by simp [hq]
        rw [e0, Nat.add_zero] at p0
        rw [e1] at p1
        have i0 : (0 : Int) < (P.length : Int) := by omega
        have i1 : (1 : Int) < (P.length : Int) := by omega
        have i2 : 0 < P.length := by omega
        have i3 : 1 < P.length := by omega
        clear hcon g1 g2 g3 hcc hq2 hq hf0 hf1 h5 h7 HOH HOL HCT HCC hql e0 e1
        go_upto_region 7 with (fail)
        go_region_with (go_at_call 75; refine (HTUP.out _ (by first | exact (Below.refl _ _).drew | exact below_drewA (Below.refl _ _) _ | exact Below.refl _ _)).mono ?_; rintro e w7 ⟨rfl, hM⟩; have HM := Lib.hid hM; have BM7 := HPUT.out _ _ (by first | exact (Below.refl _ _).drew | exact below_drewA (Below.refl _ _) _ | exact Below.refl _ _) hM; have q0 := BM7.cell 0 (v := .pointer (some ⟨fb, 0, none⟩)) rfl; have q1 := BM7.cell 1 (v := .pointer (some ⟨tb, 0, none⟩)) rfl; have q2 := BM7.cell 2 (v := .map (some bm)) rfl; obtain ⟨w9, hup, hm9, hg9⟩ := HMP.out _ _ (by first | exact (Below.refl _ _).drew | exact below_drewA (Below.refl _ _) _ | exact Below.refl _ _) hM)
        all_goals
          go_simp
          go_end0
          exact ⟨⟨_, rfl⟩, HFIN.out _ _ _ (by first | exact (Below.refl _ _).drew | exact below_drewA (Below.refl _ _) _ | exact Below.refl _ _) HM.out hm9 hg9⟩
      · have e7 : (c.kind == 7) = false := beq_eq_false_iff_ne.2 h7
        obtain ⟨g1, g2, g3⟩ := HOL.out h5 h7
        have hlf : ∀ V, Below w6.heap.size w6 V → Calls Tryd.prog 68 #[.pointer (some ⟨tb, 0, none⟩), .agg #[.int .i64 c.kind, .int .i64 c.n, .string c.text]] V fun e w' => e = .returned (.tuple #[.int .u64 R.2, .int .i64 0]) ∧ Made V w' O' tb room R.1 := fun V hb => by
          have h := leaf_any V O' tb room L' c (HS6.out.at_.below hb) (HS6.out.tabs.below hb) HWF.out
          rw [g1, g2, g3] at h
          exact h
        have HTUP := Lib.hid hlf
        clear hlf g1 g2 g3 h5 h7 HOH HOL HCT HCC
        go_upto_region 3 with (fail)
        go_region_with (go_at_call 68; refine (HTUP.out _ (by first | exact (Below.refl _ _).drew | exact below_drewA (Below.refl _ _) _ | exact Below.refl _ _)).mono ?_; rintro e w7 ⟨rfl, hM⟩; have HM := Lib.hid hM; have BM7 := HPUT.out _ _ (by first | exact (Below.refl _ _).drew | exact below_drewA (Below.refl _ _) _ | exact Below.refl _ _) hM; have q0 := BM7.cell 0 (v := .pointer (some ⟨fb, 0, none⟩)) rfl; have q1 := BM7.cell 1 (v := .pointer (some ⟨tb, 0, none⟩)) rfl; have q2 := BM7.cell 2 (v := .map (some bm)) rfl; obtain ⟨w9, hup, hm9, hg9⟩ := HMP.out _ _ (by first | exact (Below.refl _ _).drew | exact below_drewA (Below.refl _ _) _ | exact Below.refl _ _) hM)
        all_goals
          go_simp
          go_end0
          exact ⟨⟨_, rfl⟩, HFIN.out _ _ _ (by first | exact (Below.refl _ _).drew | exact below_drewA (Below.refl _ _) _ | exact Below.refl _ _) HM.out hm9 hg9⟩
end Go.Proofs.YthgnihckeckaiaaDoor.Tm
