/- SweepShares: the walk. -/
import Derived.Test.YthgnihckeckaiaaDoorSwK
import Derived.Test.YthgnihckeckaiaaDoorSwS
namespace Go.Proofs.YthgnihckeckaiaaDoor.Tm
open Go.RowKit Go.Shelf
set_option linter.unusedVariables false
set_option linter.unusedSimpArgs false

structure ShSt (w : World) (ba : Nat) (O : Nat → Prop) (L : List ObjA) (x : Int) (j : Nat) (W : World) : Prop where
  ar : ArAt W O ba 262144 L
  own : ∀ k, O k → w.heap.size ≤ k
  base : Below w.heap.size w W
  all : AllR L x
  used : usedA L ≤ 133120 + 3 * j
  cells : ∀ o ∈ L, WfC o.cell
theorem ShSt.below {w : World} {ba : Nat} {O : Nat → Prop} {L : List ObjA} {x : Int} {j : Nat} {W V : World} (h : ShSt w ba O L x j W) (hB : Below W.heap.size W V) : ShSt w ba O L x j V :=
  ⟨h.ar.below hB, h.own, below_then h.base hB, h.all, h.used, h.cells⟩
/-- A tuple of the word twice. -/
theorem ShSt.step {w : World} {ba : Nat} {O : Nat → Prop} {L : List ObjA} {x : Int} {j : Nat} {W V : World} (h : ShSt w ba O L x j W) (hj : j < 60) (hM : Made W V O ba 262144 (holdL 262144 L (tupA 2) [x, x])) :
    holdE 262144 L (tupA 2) [x, x] = 0 ∧ ∃ O', ShSt w ba O' (holdL 262144 L (tupA 2) [x, x]) (holdX 262144 L (tupA 2) [x, x]) (j + 1) V := by
  have hu := h.used
  have hall : allFind L [x, x] = true := List.all_eq_true.2 fun p hp => by
    simp at hp
    rw [hp]
    exact h.all.1.1
  have hc : costC (tupA 2) = 3 := by rw [tupA_cost]
  have he : holdE 262144 L (tupA 2) [x, x] = 0 := by
    unfold holdE
    rw [hall, if_neg (by simp), if_neg (by rw [hc]; omega)]
  have e1 : holdL 262144 L (tupA 2) [x, x] = (makeA L (tupA 2) [x, x]).1 := by unfold holdL; rw [he, if_pos rfl]
  have e2 : holdX 262144 L (tupA 2) [x, x] = (makeA L (tupA 2) [x, x]).2 := by unfold holdX; rw [he, if_pos rfl]
  rw [e1] at hM ⊢
  rw [e2]
  obtain ⟨t1, t2, t3⟩ := all_tuple h.ar.wf (by omega) h.all
  obtain ⟨O', a1, a2, a3, a4⟩ := hM
  have hs := h.base.size
  refine ⟨he, O', a1, fun k hk => ?_, h.base.trans (a4.below hs h.own), t1, by rw [t3]; omega, ?_⟩
  · rcases a3 k hk with q | q
    · exact h.own k q
    · omega
  · exact make_cells h.cells (tupA_ok (n := 2) (by omega)).2.2
theorem ShSt.tuple {w : World} {ba : Nat} {O : Nat → Prop} {L : List ObjA} {x : Int} {j : Nat} {W : World} (h : ShSt w ba O L x j W) (hj : j < 60) (hT : TabsA w) {g : Nat} (hg : W.heap[g]? = some (.cells #[.int .u64 x, .int .u64 x] 27 (0, 0))) :
    Calls Tryd.prog 47 #[.pointer (some ⟨ba, 0, none⟩), .slice (some ⟨g, 0, none⟩) 2 2] W fun e V => ∃ y O' L', e = .returned (.tuple #[.int .u64 y, .int .i64 0]) ∧ ShSt w ba O' L' y (j + 1) V := by
  have htp : Calls Tryd.prog 47 #[.pointer (some ⟨ba, 0, none⟩), .slice (some ⟨g, 0, none⟩) 2 2] W fun e w' => e = .returned (.tuple #[.int .u64 (holdX 262144 L (tupA 2) [x, x]), .int .i64 (holdE 262144 L (tupA 2) [x, x])]) ∧ Made W w' O ba 262144 (holdL 262144 L (tupA 2) [x, x]) :=
    tuple_any W O ba 262144 L [x, x] (some ⟨g, 0, none⟩) 2 h.ar (hT.below h.base) (two_words2 hg) (by simp) (fun p hp => by
      simp at hp
      rw [hp]
      exact h.all.1.2)
  refine htp.mono ?_
  rintro e V ⟨rfl, hM⟩
  obtain ⟨he, O', hS⟩ := h.step hj hM
  exact ⟨_, O', _, by rw [he], hS⟩
set_option maxRecDepth 10000 in
set_option maxHeartbeats 8000000 in
theorem sweepShares_row (A : Option Addr) (cap : Nat) (t : List CellD) (n : Int) (w : World) (hT : TabsA w) (hcap : t.length ≤ cap) (hr : Reads w A t) (hs : ∀ j (h : j < t.length), WfC t[j]) (hy : t.length * 32 ≤ 140737488351232) (wn : (Lit.int .i64 n).wf = true) :
    Calls Tryd.prog 12 #[.slice A t.length cap, .int .i64 n] w fun e w' => e = .returned (.bool true) ∧ Below w.heap.size w w' := by
  have hn : -9223372036854775808 ≤ n ∧ n < 9223372036854775808 := by simp [Lit.wf, IntKind.min, IntKind.max] at wn; simp [IntKind.signed, IntKind.bits] at wn; omega
  have h3 := tabs_size hT
  have hnew := new_any 262144 w (by decide) h3
  have hkn := fun V (hb : Below w.heap.size w V) => sknown_any V (hT.below hb)
  have HK := Lib.hid hkn
  have HT := Lib.hid hT
  have HR := Lib.hid hr
  have HS := Lib.hid hs
  have hAlt : t.length ≠ 0 → ∀ g o, A = some ⟨g, o, none⟩ → g < w.heap.size := fun h0 g o e => by
    obtain ⟨g', o', e', hc⟩ := hr 0 (by omega)
    rw [e] at e'
    cases e'
    exact cell_lt hc.1
  have HAL := Lib.hid hAlt
  have htl : t.length ≤ 1000000000000000 := by omega
  clear hT hr hs hkn hAlt wn
  go_enter Tryd.func12, Tryd.ntmps12
  go_wp2_with fail
  refine hnew.mono ?_
  rintro e w1 ⟨ba, O, rfl, hA1, hO1, hB1⟩
  have hput := put_any w1 O ba 262144 [] t A cap hA1 (HT.out.below hB1) (HR.out.below hB1) (fun h0 g o e ho => by
    have := HAL.out h0 g o e
    have := hO1 _ ho
    omega) HS.out htl
  have hwf1 := hA1.wf
  have HPO := Lib.hid (put_ok (room := 262144) (L := []) t WfA.nil (by omega) (by simp [usedA]))
  have HB1 := Lib.hid hB1
  have HO1 := Lib.hid hO1
  by_cases hE : putE 262144 [] t = 0
  · obtain ⟨p1, p2, p3⟩ := put_all (room := 262144) (by omega) hE
    have p4 := put_total hE
    have p5 := HPO.out.cells (fun o ho => (by cases ho)) (fun c hc => by
      obtain ⟨i, hi, rfl⟩ := List.mem_iff_getElem.1 hc
      exact HS.out i hi)
    rw [hE] at hput
    obtain ⟨x, hx⟩ : ∃ x, putX 262144 [] t = x := ⟨_, rfl⟩
    obtain ⟨L, hL⟩ : ∃ l, putL 262144 [] t = l := ⟨_, rfl⟩
    rw [hx, hL] at hput p1
    rw [hL] at p2 p3 p5
    have HP1 := Lib.hid p1
    have HP5 := Lib.hid p5
    clear hnew hA1 hO1 hB1 hE HPO p1 p5 hx hL hwf1
    go_wp2_with fail
    refine hput.mono ?_
    rintro e w2 ⟨rfl, hM⟩
    obtain ⟨O2, hA2, hO2, hB2⟩ := Made.trans_below HB1.out HO1.out hM
    have HSt := Lib.hid (show ShSt w ba O2 L x 0 w2 from ⟨hA2, hO2, hB2, HP1.out, by omega, HP5.out⟩)
    have hcn := fun V => count_any n 60 V (by omega) (by omega) hn
    clear hput hM hA2 hB2 p2 p3 HP1 HP5
    go_wp2_with fail
    refine (hcn w2).mono ?_
    rintro e w3 ⟨K, hK, rfl, hw3⟩
    subst hw3
    clear hcn
    go_wp2_with fail
    go_loopw [6, 7, 9] (fun v6 v7 i wr => ∃ (j : Nat) (O' : Nat → Prop) (L' : List ObjA) (y : Int), j ≤ K ∧ v6 = .int .u64 y ∧ v7 = .int .i64 0 ∧ i = .int .i64 (j : Int) ∧ Hid (ShSt w ba O' L' y j wr)) (fun v6 v7 i wr => K - (intOf i).toNat)
    case atStart => exact ⟨0, O2, L, x, Nat.zero_le _, rfl, rfl, rfl, HSt⟩
    case round =>
      clear HSt
      obtain ⟨j, O', L', y, hj, rfl, rfl, rfl, hS⟩ := hrel
      by_cases hlt : j < K
      · have hj1 : (j : Int) < (K : Int) := by omega
        have hj0 : (0 : Int) ≤ (j : Int) := Int.natCast_nonneg _
        have hbl : decide ((j : Int) < (K : Int)) = true := decide_eq_true hj1
        have htp := (hS.out.below (below_one wr (.cells #[.int .u64 y, .int .u64 y] 27))).tuple (by omega) HT.out (heap_new wr _)
        go_wp2_with fail
        refine htp.mono ?_
        rintro e w4 ⟨y2, O4, L4, rfl, hS4⟩
        have HS4 := Lib.hid hS4
        clear htp hS4 hS
        go_wp2
        go_roundw
        case rel => exact ⟨j + 1, O4, L4, y2, by omega, rfl, rfl, by go_num, HS4⟩
        case measure => simp [intOf]; omega
      · obtain rfl : j = K := by omega
        have hbl : decide ((j : Int) < (j : Int)) = false := decide_eq_false (by omega)
        have hS0 := hS.out
        have hu := hS0.used
        have hall := all_used hS0.ar.wf (by omega) hS0.all
        have hfd : allFind L' [y] = true := List.all_eq_true.2 fun p hp => by rw [List.mem_singleton.1 hp]; exact hS0.all.1.1
        have hE0 : rootE L' [y] = 0 := by unfold rootE; rw [if_pos hfd]
        have hX0 : rchX L' [y] = rchW L' [y] := by unfold rchX; rw [if_pos hfd]
        have hyr : ∀ p ∈ [y], 0 ≤ p ∧ p < 18446744073709551616 := fun p hp => by rw [List.mem_singleton.1 hp]; exact hS0.all.1.2
        have hrd : ∀ (V : World) (g : Nat), V.heap[g]? = some (.cells #[.int .u64 y] 27 (0, 0)) → WReads V (some ⟨g, 0, none⟩) [y] := fun V g hg i hi => by
          have e : i = 0 := by simpa using hi
          subst e
          exact ⟨g, 0, rfl, BlkIs.cell (show BlkIs V g #[.int .u64 y] 27 from hg) 0 rfl⟩
        have hlv : Calls Tryd.prog 48 #[.pointer (some ⟨ba, 0, none⟩), .slice (some ⟨wr.heap.size, 0, none⟩) 1 1] _ _ := slive_any (wr.alloc (.cells #[.int .u64 y] 27)) O' ba 262144 L' [y] (some ⟨wr.heap.size, 0, none⟩) 1 (hS0.ar.below (below_one _ _)) (HT.out.below (below_alloc' hS0.base _)) hS0.cells (hrd _ _ (heap_new wr _)) hyr (by simp)
        rw [hE0, hX0, hall] at hlv
        have HFD := Lib.hid hfd
        have HYR := Lib.hid hyr
        have HRD := Lib.hid hrd
        have HALL := Lib.hid hall
        clear hlt hj hall hfd hE0 hX0 hyr hrd
        go_wp2_with fail
        refine hlv.mono ?_
        rintro e w4 ⟨rfl, hb4⟩
        have HS4 := Lib.hid ((hS.out.below (below_one wr _)).below hb4)
        clear hlv hb4 hS0
        have hcl : Calls Tryd.prog 49 #[.pointer (some ⟨ba, 0, none⟩), .slice (some ⟨w4.heap.size, 0, none⟩) 1 1, .int .i64 262144] _ _ := collect_any (w4.alloc (.cells #[.int .u64 y] 27)) O' ba 262144 L' [y] (some ⟨w4.heap.size, 0, none⟩) 1 262144 (HS4.out.ar.below (below_one _ _)) (HT.out.below (below_alloc' HS4.out.base _)) HS4.out.cells (HRD.out _ _ (heap_new w4 _)) HYR.out (by simp) HFD.out (by omega) (by rw [HALL.out]; omega)
        go_wp2_with fail
        refine hcl.mono ?_
        rintro e w5 ⟨tb, O5, A5, c5, rfl, hC⟩
        have hwf := HS4.out.ar.wf
        have hR := rch_one hwf HS4.out.all.1
        have hco := col_ok hwf (by omega) HS4.out.cells hR.weak (by rw [HALL.out]; omega)
        have hcu : usedA (colF L' (rchW L' [y]) (wordsA 0 L')).1 = usedA L' := by rw [hco.used, HALL.out]
        have HS5 := Lib.hid ((HS4.out.below (below_one w4 _)).below hC.base)
        have hub := used_any w5 O5 tb 262144 _ hC.ar
        rw [hcu] at hub
        obtain ⟨U, hU⟩ : ∃ U, usedA L' = U := ⟨_, rfl⟩
        rw [hU] at hub ⊢
        have HUU := Lib.hid hU
        clear hcl hC hwf hR hco hcu hU hu
        go_wp2_with fail
        refine hub.mono ?_
        rintro e w6 ⟨rfl, hb6⟩
        have HS6 := Lib.hid (HS5.out.below hb6)
        have hua := used_any w6 O' ba 262144 L' HS6.out.ar
        rw [HUU.out] at hua
        clear hub hb6
        go_wp2_with fail
        refine hua.mono ?_
        rintro e w7 ⟨rfl, hb7⟩
        have HB7 := Lib.hid (below_then HS6.out.base hb7)
        have hk := HK.out w7 HB7.out
        clear hua hb7
        go_wp2_with fail
        refine hk.mono ?_
        rintro e w8 ⟨rfl, hb8⟩
        go_wp2
        go_ret
        exact ⟨rfl, below_then HB7.out hb8⟩
  · obtain ⟨er, her⟩ : ∃ e, putE 262144 [] t = e := ⟨_, rfl⟩
    rw [her] at hput hE
    have eb : (er != 0) = true := by rw [bne_iff_ne]; exact hE
    obtain ⟨x, hx⟩ : ∃ x, putX 262144 [] t = x := ⟨_, rfl⟩
    rw [hx] at hput
    clear hnew hA1 hO1 hB1 hE HPO hx her hwf1
    go_wp2_with fail
    refine hput.mono ?_
    rintro e w2 ⟨rfl, hM⟩
    obtain ⟨O2, hA2, hO2, hB2⟩ := Made.trans_below HB1.out HO1.out hM
    have hk := HK.out w2 hB2
    clear hput hM hA2
    go_wp2_with fail
    refine hk.mono ?_
    rintro e w3 ⟨rfl, hb3⟩
    go_wp2
    go_ret
    exact ⟨rfl, below_then hB2 hb3⟩
end Go.Proofs.YthgnihckeckaiaaDoor.Tm
