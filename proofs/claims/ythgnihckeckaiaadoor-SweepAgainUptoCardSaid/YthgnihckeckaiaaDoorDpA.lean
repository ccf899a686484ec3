/- Layer 4's Made: an arena by a script, and pick. -/
import Derived.Test.YthgnihckeckaiaaDoorDpI
namespace Go.Proofs.YthgnihckeckaiaaDoor.Tm
open Go.RowKit
set_option linter.unusedVariables false
set_option linter.unusedSimpArgs false

def NReads (w : World) (A : Option Addr) (l : List Int) : Prop := ∀ j (h : j < l.length), ∃ b o, A = some ⟨b, o, none⟩ ∧ w.cell? ⟨b, o + j, none⟩ = some (.int .i64 l[j])
theorem NReads.below {w W : World} {A : Option Addr} {l : List Int} (h : NReads w A l) (hB : Below w.heap.size w W) : NReads W A l := fun j hj => by
  obtain ⟨b, o, e, hc⟩ := h j hj
  exact ⟨b, o, e, cell_below hB hc⟩
structure Op4 where
  kind : Int
  T : List CellD
  N : List Int
structure Op4At (w : World) (b o : Nat) (op : Op4) (AT AN : Option Addr) (cT cN : Nat) : Prop where
  k0 : w.cell? ⟨b, o, none⟩ = some (.int .i64 op.kind)
  k1 : w.cell? ⟨b, o + 1, none⟩ = some (.slice AT op.T.length cT)
  k2 : w.cell? ⟨b, o + 2, none⟩ = some (.slice AN op.N.length cN)
  rT : Reads w AT op.T
  rN : NReads w AN op.N
  lT : op.T.length ≤ cT
  lN : op.N.length ≤ cN
def Script4 (w : World) (A : Option Addr) (ops : List Op4) : Prop := ∀ j (h : j < ops.length), ∃ b o AT AN cT cN, A = some ⟨b, o, none⟩ ∧ Op4At w b (o + j * 3) ops[j] AT AN cT cN
structure Op4Ok (op : Op4) : Prop where
  wf : ∀ c ∈ op.T, WfC c
  rN : ∀ n ∈ op.N, -9223372036854775808 ≤ n ∧ n < 9223372036854775808
  lT : op.T.length ≤ 1000000000000000
  lN : op.N.length * 8 ≤ 140737488351232
theorem Op4At.below {w W : World} {b o : Nat} {op : Op4} {AT AN : Option Addr} {cT cN : Nat} (h : Op4At w b o op AT AN cT cN) (hB : Below w.heap.size w W) : Op4At W b o op AT AN cT cN :=
  ⟨cell_below hB h.k0, cell_below hB h.k1, cell_below hB h.k2, h.rT.below hB, h.rN.below hB, h.lT, h.lN⟩
theorem Script4.below {w W : World} {A : Option Addr} {ops : List Op4} (h : Script4 w A ops) (hB : Below w.heap.size w W) : Script4 W A ops := fun j hj => by
  obtain ⟨b, o, AT, AN, cT, cN, e, hop⟩ := h j hj
  exact ⟨b, o, AT, AN, cT, cN, e, hop.below hB⟩
theorem find_81 (L : List ObjA) : FindOk L 81 := by
  refine ⟨?_, by omega, by omega⟩
  unfold findA
  rw [if_pos (.inl (by decide))]
  rfl
theorem pick_any (w : World) (l : List Int) (A : Option Addr) (cap : Nat) (n : Int) (hr : WReads w A l) (hl : l.length ≤ 1000000) (hn : -9223372036854775808 ≤ n ∧ n < 9223372036854775808) :
    Calls Tryd.prog 29 #[.slice A l.length cap, .int .i64 n] w fun e w' => ∃ y, e = .returned (.int .u64 y) ∧ (y ∈ l ∨ y = 81) ∧ w' = w := by
  by_cases h0 : l.length = 0
  · have hlb : ((l.length : Int) == 0) = true := by rw [h0]; rfl
    have hli : (l.length : Int) = 0 := by omega
    clear hr
    go_enter Tryd.func29, Tryd.ntmps29
    go_wp2
    go_ret
    exact ⟨81, rfl, .inr rfl, rfl⟩
  · have hlb : ((l.length : Int) == 0) = false := beq_eq_false_iff_ne.2 (by omega)
    have hcn := count_any n l.length w (by omega) (by omega) hn
    have HR := Lib.hid hr
    clear hr h0
    go_enter Tryd.func29, Tryd.ntmps29
    go_wp2_with fail
    refine hcn.mono ?_
    rintro e w1 ⟨k, hk, rfl, rfl⟩
    obtain ⟨g, o, rfl, hc⟩ := HR.out k hk
    have hk1 : (k : Int) < (l.length : Int) := by omega
    have hk0 : (0 : Int) ≤ (k : Int) := Int.natCast_nonneg _
    have HM := Lib.hid (List.getElem_mem hk)
    obtain ⟨y, hy⟩ : ∃ y, l[k] = y := ⟨_, rfl⟩
    rw [hy] at hc HM
    clear hcn hy
    go_wp2
    go_ret
    exact ⟨y, rfl, .inl HM.out, rfl⟩
structure MkRep (w wr : World) (O : Nat → Prop) (ba room : Nat) (L : List ObjA) (l : List Int) (vL : Value) : Prop where
  ar : ArAt wr O ba room L
  cells : ∀ o ∈ L, WfC o.cell
  ok : ∀ x ∈ l, FindOk L x
  o1 : ∀ k, O k → w.heap.size ≤ k
  base : Below w.heap.size w wr
  row : wr.ownsRow w.heap.size 27 1 vL l.length (encW l)
  rO : ∀ k, vL.ownBlock = some k → ¬ O k
theorem MkRep.below {w wr w' : World} {O : Nat → Prop} {ba room : Nat} {L : List ObjA} {l : List Int} {vL : Value} (h : MkRep w wr O ba room L l vL) (hB : Below wr.heap.size wr w') : MkRep w w' O ba room L l vL :=
  ⟨h.ar.below hB, h.cells, h.ok, h.o1, below_then h.base hB, row_below h.row hB, h.rO⟩
theorem MkRep.made {w wr w' : World} {O : Nat → Prop} {ba room : Nat} {L L' : List ObjA} {l : List Int} {vL : Value} (h : MkRep w wr O ba room L l vL) (hM : Made wr w' O ba room L') (he : Ext L L') (hc : ∀ o ∈ L', WfC o.cell) : ∃ O', MkRep w w' O' ba room L' l vL := by
  obtain ⟨O', a1, a2, a3, a4⟩ := hM
  have hs := h.base.size
  refine ⟨O', a1, hc, fun x hx => (h.ok x hx).ext he, fun k hk => ?_, h.base.trans (a4.below hs h.o1), row_fr h.row a4 h.rO, fun k hk ho => ?_⟩
  · rcases a3 k hk with h' | h'
    · exact h.o1 k h'
    · omega
  · have hlt := row_lt h.row k hk
    rcases a3 k ho with h' | h'
    · exact h.rO k hk h'
    · omega
theorem MkRep.add {w wr wa w' : World} {O : Nat → Prop} {ba room : Nat} {L : List ObjA} {l : List Int} {vL v' : Value} {x : Int} (h : MkRep w wr O ba room L l vL) (hx : FindOk L x) (hB : Below wr.heap.size wr wa) (hg : wa.grownBy w' vL.ownBlock)
    (hrow : w'.ownsRow w.heap.size 27 1 v' (l.length + 1) (encW l ++ [.int .u64 x])) (hat : v'.ownBlock = vL.ownBlock ∨ v'.ownBlock = some wa.heap.size) : MkRep w w' O ba room L (l ++ [x]) v' := by
  have h' := h.below hB
  have hlim := h'.ar.lim
  refine ⟨h'.ar.same hg.size fun k hk => hg.block k (hlim k hk).2 (fun e => h.rO k e.symm hk), h.cells, fun y hy => ?_, h.o1, below_grown h'.base hg (row_base h.row), ?_, fun k hk ho => ?_⟩
  · rcases List.mem_append.1 hy with hy | hy
    · exact h.ok y hy
    · rw [List.mem_singleton.1 hy]; exact hx
  · rw [List.length_append, List.length_singleton, encW_snoc]
    exact hrow
  · rcases hat with e | e
    · exact h.rO k (by rw [← e]; exact hk) ho
    · rw [hk] at e
      injection e with e
      subst e
      have := (hlim _ ho).2
      omega
/-- What Made leaves. -/
structure MadeAt (w w' : World) (ba room : Nat) (O : Nat → Prop) (L : List ObjA) (l : List Int) (A : Option Addr) (cap : Nat) : Prop where
  ar : ArAt w' O ba room L
  cells : ∀ o ∈ L, WfC o.cell
  ok : ∀ x ∈ l, FindOk L x
  o1 : ∀ k, O k → w.heap.size ≤ k
  base : Below w.heap.size w w'
  len : l.length ≤ 200
  rd : WReads w' A l
  rb : ∀ g o, A = some ⟨g, o, none⟩ → w.heap.size ≤ g ∧ ¬ O g
theorem MkRep.fin {w w' : World} {O : Nat → Prop} {ba room : Nat} {L : List ObjA} {l : List Int} {A : Option Addr} {cap : Nat} (h : MkRep w w' O ba room L l (.slice A l.length cap)) (hl : l.length ≤ 200) : MadeAt w w' ba room O L l A cap :=
  ⟨h.ar, h.cells, h.ok, h.o1, h.base, hl, WReads.of_row h.row, fun g o e => by
    subst e
    have hr := h.row.2
    rcases hr with ⟨e, _⟩ | ⟨g', cap', cur, e, _⟩
    · cases e
    · injection e with e1 _ _
      injection e1 with e1
      injection e1 with e1 e2 _
      subst e1
      have ho : (Value.slice (some ⟨g, o, none⟩) l.length cap).ownBlock = some g := by simp [Value.ownBlock]
      exact ⟨row_base h.row g ho, h.rO g ho⟩⟩
theorem pick_ok {L : List ObjA} {l : List Int} (h : ∀ x ∈ l, FindOk L x) {y : Int} (hy : y ∈ l ∨ y = 81) : FindOk L y := by
  rcases hy with hy | rfl
  · exact h y hy
  · exact find_81 L
/-- The parts of a tuple, as they are picked. -/
structure PtRep (wr wx : World) (L : List ObjA) (ps : List Int) (vP : Value) : Prop where
  base : Below wr.heap.size wr wx
  row : wx.ownsRow wr.heap.size 27 1 vP ps.length (encW ps)
  ok : ∀ x ∈ ps, FindOk L x
/-- What Tuple and Cons leave, in Made's words. -/
theorem mk_hold {w W w' : World} {O : Nat → Prop} {ba room : Nat} {L : List ObjA} {l : List Int} {vL : Value} {c : CellD} {ys : List Int} (hP : MkRep w W O ba room L l vL) (he : cellE c = 0) (hc : WfC c) (hr : room ≤ 262144) (hM : Made W w' O ba room (holdL room L c ys)) :
    ∃ O' L', (holdE room L c ys = 0 → FindOk L' (holdX room L c ys)) ∧ MkRep w w' O' ba room L' l vL := by
  have H := hold_ok (room := room) (L := L) (c := c) (ys := ys) hP.ar.wf he hc hr hP.ar.lims.2
  obtain ⟨O', h⟩ := hP.made hM H.ext (H.cells hP.cells)
  exact ⟨O', _, H.ok, h⟩
theorem mk_tuple (w W : World) (O : Nat → Prop) (ba room : Nat) (L : List ObjA) (l : List Int) (vL : Value) (ps : List Int) (A : Option Addr) (cap : Nat) (hP : MkRep w W O ba room L l vL) (hT : TabsA W) (hr : room ≤ 262144) (hrd : WReads W A ps) (hx : ∀ p ∈ ps, FindOk L p) :
    Calls Tryd.prog 47 #[.pointer (some ⟨ba, 0, none⟩), .slice A ps.length cap] W fun e w' => ∃ x er O' L', e = .returned (.tuple #[.int .u64 x, .int .i64 er]) ∧ (er = 0 → FindOk L' x) ∧ MkRep w w' O' ba room L' l vL := by
  by_cases hk : ps.length ≤ 255
  · obtain ⟨k1, k2, k3⟩ := tupA_ok hk
    refine (tuple_any W O ba room L ps A cap hP.ar hT hrd hk (fun p hp => (hx p hp).2)).mono ?_
    rintro e w' ⟨rfl, hM⟩
    obtain ⟨O', L', h1, h2⟩ := mk_hold hP k1 k3 hr hM
    exact ⟨_, _, O', L', rfl, h1, h2⟩
  · refine (tuple_big W O ba room L A ps.length cap hP.ar (by omega)).mono ?_
    rintro e w' ⟨rfl, hM⟩
    obtain ⟨O', h⟩ := hP.made hM (Ext.refl L) hP.cells
    exact ⟨0, 4, O', L, rfl, fun h => absurd h (by decide), h⟩
theorem mk_cons (w W : World) (O : Nat → Prop) (ba room : Nat) (L : List ObjA) (l : List Int) (vL : Value) (y z : Int) (hP : MkRep w W O ba room L l vL) (hT : TabsA W) (hr : room ≤ 262144) (hy : y ∈ l ∨ y = 81) (hz : z ∈ l ∨ z = 81) :
    Calls Tryd.prog 75 #[.pointer (some ⟨ba, 0, none⟩), .int .u64 y, .int .u64 z] W fun e w' => ∃ x er O' L', e = .returned (.tuple #[.int .u64 x, .int .i64 er]) ∧ (er = 0 → FindOk L' x) ∧ MkRep w w' O' ba room L' l vL := by
  obtain ⟨k1, k2, k3, _⟩ := consA_ok
  refine (cons_any W O ba room L y z (pick_ok hP.ok hy).2 (pick_ok hP.ok hz).2 hP.ar hT).mono ?_
  rintro e w' ⟨rfl, hM⟩
  obtain ⟨O', L', h1, h2⟩ := mk_hold hP k1 k3 hr hM
  exact ⟨_, _, O', L', rfl, h1, h2⟩
set_option maxRecDepth 10000 in
set_option maxHeartbeats 8000000 in
theorem made4_any (w : World) (room : Nat) (ops : List Op4) (A : Option Addr) (cap : Nat) (hT : TabsA w) (hr : Script4 w A ops) (hk : ∀ op ∈ ops, Op4Ok op) (hl : ops.length ≤ 1000000000000000) (hcap : ops.length ≤ cap) (hroom : room ≤ 262144) :
    Calls Tryd.prog 28 #[.slice A ops.length cap, .int .i64 (room : Int)] w fun e w' => ∃ ba O L l A' c', e = .returned (.tuple #[.pointer (some ⟨ba, 0, none⟩), .slice A' l.length c']) ∧ MadeAt w w' ba room O L l A' c' := by
  have h3 := tabs_size hT
  have hnew := new_any room w hroom h3
  have HT := Lib.hid hT
  have HR := Lib.hid hr
  have HK := Lib.hid hk
  clear hT hr hk
  go_enter Tryd.func28, Tryd.ntmps28
  go_wp2_with fail
  refine hnew.mono ?_
  rintro e w1 ⟨ba, O1, rfl, hA1, hO1, hB1⟩
  have hs1 := hB1.size
  have HREP := Lib.hid (show MkRep w w1 O1 ba room [] [] (.slice none 0 0) from ⟨hA1, fun o ho => (by cases ho), fun x hx => (by cases hx), hO1, hB1, row_nil _ _ _ _, fun k hk => by simp [Value.ownBlock] at hk⟩)
  clear hnew hA1 hO1 hB1
  go_wp2_with fail
  go_loopw [7, 19] (fun vL i wr => ∃ (j : Nat) (O : Nat → Prop) (L : List ObjA) (l : List Int), j ≤ ops.length ∧ j ≤ 200 ∧ l.length ≤ j ∧ i = .int .i64 (j : Int) ∧ Hid (MkRep w wr O ba room L l vL)) (fun vL i wr => ops.length - (intOf i).toNat)
  case atStart => exact ⟨0, O1, [], [], Nat.zero_le _, by omega, by simp, rfl, HREP⟩
  case round =>
    clear HREP hs1
    obtain ⟨j, O, L, l, hj, hj2, hlj, rfl, hP⟩ := hrel
    obtain ⟨AL, cL, hvL⟩ := row_slice hP.out.row
    subst hvL
    have hsr := hP.out.base.size
    by_cases hlt : j < ops.length ∧ j < 200
    · obtain ⟨hlt, hlt2⟩ := hlt
      have hb2 : decide ((200 : Int) ≤ (j : Int)) = false := decide_eq_false (by omega)
      have hbl : decide ((j : Int) < (ops.length : Int)) = true := decide_eq_true (by omega)
      have hj1 : (j : Int) < (ops.length : Int) := by omega
      have hj0 : (0 : Int) ≤ (j : Int) := Int.natCast_nonneg _
      obtain ⟨b, o, AT, AN, cT, cN, rfl, hop0⟩ := HR.out j hlt
      have hlt0 : b < w.heap.size := cell_lt hop0.k0
      have hok := HK.out _ (List.getElem_mem hlt)
      have hop := hop0.below hP.out.base
      obtain ⟨op, hopp⟩ : ∃ op, ops[j] = op := ⟨_, rfl⟩
      rw [hopp] at hop0 hop hok
      have c0 := hop.k0
      have c1 := hop.k1
      have c2 := hop.k2
      have HOP := Lib.hid hop
      have HOP0 := Lib.hid hop0
      have HOK := Lib.hid hok
      have hlN := hop.lN
      have hlN2 := hok.lN
      have hB0 := below_one wr (.cells #[.int .i64 op.kind, .slice AT op.T.length cT, .slice AN op.N.length cN] 126)
      have BO : BlkIs (wr.alloc (.cells #[.int .i64 op.kind, .slice AT op.T.length cT, .slice AN op.N.length cN] 126)) wr.heap.size #[.int .i64 op.kind, .slice AT op.T.length cT, .slice AN op.N.length cN] 126 := heap_new wr _
      have HP1 := Lib.hid (hP.out.below hB0)
      clear hop hop0 hok hopp hP
      go_upto_block 2 with (fail)
      obtain ⟨w0, hw0⟩ : ∃ W, wr.alloc (.cells #[.int .i64 op.kind, .slice AT op.T.length cT, .slice AN op.N.length cN] 126) = W := ⟨_, rfl⟩
      rw [hw0] at HP1 BO hB0 ⊢
      have o0 := BO.cell 0 (v := .int .i64 op.kind) rfl
      have o1 := BO.cell 1 (v := .slice AT op.T.length cT) rfl
      have o2 := BO.cell 2 (v := .slice AN op.N.length cN) rfl
      have hs0 := hB0.size
      have HB0 := Lib.hid hB0
      have hszw := HP1.out.base.size
      clear BO c0 c1 c2 hB0
      go_cut [10, 11] (fun s10 s11 wx => ∃ x e O' L', s10 = .int .u64 x ∧ s11 = .int .i64 e ∧ Hid (e = 0 → FindOk L' x) ∧ Hid (MkRep w wx O' ba room L' l (.slice AL l.length cL)))
      case first =>
        clear hw0
        by_cases k1 : op.kind = 1
        · have e1 : (op.kind == 1) = true := by rw [k1]; rfl
          have hTx := HT.out.below HP1.out.base
          have hput := put_any w0 O ba room L op.T AT cT HP1.out.ar hTx (HOP.out.rT.below HB0.out) (fun h0 g q e ho => by
            obtain ⟨g', q', e', hc⟩ := HOP0.out.rT 0 (by omega)
            rw [e] at e'
            cases e'
            have := cell_lt hc.1
            simp at this
            have := HP1.out.o1 _ ho
            omega) (fun i hi => HOK.out.wf _ (List.getElem_mem hi)) HOK.out.lT
          have hlims := HP1.out.ar.lims
          have HPO := Lib.hid (put_ok (room := room) (L := L) op.T HP1.out.ar.wf hroom hlims.2)
          clear hTx k1 hlims
          go_wp2_with fail
          refine hput.mono ?_
          rintro e w2 ⟨rfl, hM⟩
          obtain ⟨O2, hP2⟩ := HP1.out.made hM HPO.out.ext (HPO.out.cells HP1.out.cells HOK.out.wf)
          have HP2 := Lib.hid hP2
          clear hP2 hM
          go_wp2
          go_meet
          exact ⟨_, _, O2, _, rfl, rfl, Lib.hid (fun h => (HPO.out.ok h).1), HP2⟩
        · have e1 : (op.kind == 1) = false := beq_eq_false_iff_ne.2 k1
          by_cases k2 : op.kind = 2
          · have e2 : (op.kind == 2) = true := by rw [k2]; rfl
            have hlN3 : op.N.length ≤ 17592186043904 := by omega
            have HT0 := Lib.hid (HT.out.below HP1.out.base)
            have HN0 := Lib.hid (HOP.out.rN.below HB0.out)
            have HRN := Lib.hid HOK.out.rN
            have HPT0 := Lib.hid (show PtRep w0 w0 L [] (.slice none 0 0) from ⟨Below.refl _ _, row_nil _ _ _ _, fun x hx => (by cases hx)⟩)
            clear k1 k2 HOP HOP0 HOK
            go_wp2_with fail
            go_loopw [12, 42] (fun v12 i wr => ∃ (q : Nat) (ps : List Int), q ≤ op.N.length ∧ ps.length = q ∧ i = .int .i64 (q : Int) ∧ Hid (PtRep w0 wr L ps v12)) (fun v12 i wr => op.N.length - (intOf i).toNat)
            case atStart => exact ⟨0, [], Nat.zero_le _, rfl, rfl, HPT0⟩
            case round =>
              obtain ⟨q, ps, hq, hpq, rfl, hPT⟩ := hrel
              obtain ⟨AP, cP, hvP⟩ := row_slice hPT.out.row
              rw [hpq] at hvP
              subst hvP
              have HPQ := Lib.hid hpq
              have hszr := hPT.out.base.size
              clear hpq
              by_cases hlt3 : q < op.N.length
              · have hrn := HRN.out _ (List.getElem_mem hlt3)
                obtain ⟨g, o, hAN, hc⟩ := (HN0.out.below hPT.out.base) q hlt3
                subst hAN
                obtain ⟨y0, hy0⟩ : ∃ y, op.N[q] = y := ⟨_, rfl⟩
                rw [hy0] at hrn hc
                have hq1 : (q : Int) < (op.N.length : Int) := by omega
                have hq0 : (0 : Int) ≤ (q : Int) := Int.natCast_nonneg _
                have hql : decide ((q : Int) < (op.N.length : Int)) = true := decide_eq_true hq1
                have hpk := pick_any wr l AL cL y0 ((WReads.of_row HP1.out.row).below hPT.out.base) (by omega) hrn
                have HROW := Lib.hid (show wr.ownsRow w0.heap.size 27 1 (.slice AP q cP) q (encW ps) by
                  have := hPT.out.row
                  rw [HPQ.out] at this
                  exact this)
                obtain ⟨i0, hi, hz0, hz1, hz2⟩ := info_parts word_info
                clear hy0 hrn
                go_wp2_with fail
                refine hpk.mono ?_
                rintro e wq ⟨y, rfl, hy, hwq⟩
                subst hwq
                have HY := Lib.hid hy
                clear hpk hy hc
                go_wp2_with (at_builtin
                             refine wpList_append_own_at _ rfl (.tmp 46) (.tmp 50) _ rfl w0.heap.size 27 i0 (.int .u64 0) 1 8 Tryd.underlying31 hi hz0 hz1 hz2 rfl (by decide) (.slice AP q cP) q (encW ps) rfl (HROW.out.alloc _) ⟨wq.heap.size, 0, none⟩ 1 1 [.int .u64 y] rfl rfl (cell_one_new _ _ _) (by simp [Value.oneCell']) (by unfold maxLen; omega) (by omega) (by rw [World.size_alloc]; omega) ?_
                             intro v5 w5 hown5 hgrow5 hnil5 hat5)
                have HP5 := Lib.hid (show PtRep w0 w5 L (ps ++ [y]) v5 from ⟨below_grown (below_alloc' hPT.out.base _) hgrow5 (row_base hPT.out.row), by rw [List.length_append, List.length_singleton, HPQ.out, encW_snoc]; exact hown5, fun x hx => by
                  rcases List.mem_append.1 hx with hx | hx
                  · exact hPT.out.ok x hx
                  · rw [List.mem_singleton.1 hx]
                    exact pick_ok HP1.out.ok HY.out⟩)
                go_roundw
                case rel => exact ⟨q + 1, ps ++ [y], hlt3, by rw [List.length_append, List.length_singleton, HPQ.out], by go_num, HP5⟩
                case measure => simp [intOf]; omega
              · have hql : decide ((q : Int) < (op.N.length : Int)) = false := decide_eq_false (by omega)
                have htp := mk_tuple w wr O ba room L l (.slice AL l.length cL) ps AP cP (HP1.out.below hPT.out.base) (HT0.out.below hPT.out.base) hroom (WReads.of_row (by have := hPT.out.row; rw [HPQ.out] at this ⊢; exact this)) hPT.out.ok
                rw [HPQ.out] at htp
                have hlt4 : ¬ q < op.N.length := hlt3
                go_wp2_with fail
                refine htp.mono ?_
                rintro e w5 ⟨x, er, O5, L5, rfl, hx5, hP5⟩
                have HX5 := Lib.hid hx5
                have HP5 := Lib.hid hP5
                clear hx5 hP5 htp
                go_wp2
                go_meet
                exact ⟨x, er, O5, L5, rfl, rfl, HX5, HP5⟩
          · have e2 : (op.kind == 2) = false := beq_eq_false_iff_ne.2 k2
            by_cases k3 : op.kind = 3
            · have e3 : (op.kind == 3) = true := by rw [k3]; rfl
              clear k1 k2 k3
              by_cases h2 : 2 ≤ op.N.length
              · have hge : decide ((2 : Int) ≤ (op.N.length : Int)) = true := decide_eq_true (by omega)
                have r0 := HOK.out.rN op.N[0] (List.getElem_mem (by omega))
                have r1 := HOK.out.rN op.N[1] (List.getElem_mem (by omega))
                have HN0 := HOP.out.rN.below HB0.out
                obtain ⟨g, o, hAN, n0⟩ := HN0 0 (by omega)
                obtain ⟨g', o', hAN', n1⟩ := HN0 1 (by omega)
                subst hAN
                cases hAN'
                have i0 : (0 : Int) < (op.N.length : Int) := by omega
                have i1 : (1 : Int) < (op.N.length : Int) := by omega
                have i2 : 0 < op.N.length := by omega
                have i3 : 1 < op.N.length := by omega
                obtain ⟨a0, ha0⟩ : ∃ y, op.N[0] = y := ⟨_, rfl⟩
                obtain ⟨a1, ha1⟩ : ∃ y, op.N[1] = y := ⟨_, rfl⟩
                rw [ha0] at r0 n0
                rw [Nat.add_zero] at n0
                rw [ha1] at r1 n1
                have hpk := fun W (hB : Below w0.heap.size w0 W) n (hn : -9223372036854775808 ≤ n ∧ n < 9223372036854775808) => pick_any W l AL cL n ((WReads.of_row HP1.out.row).below hB) (by omega) hn
                have hcx := fun W (hB : Below w0.heap.size w0 W) y z (hy : y ∈ l ∨ y = 81) (hz : z ∈ l ∨ z = 81) => mk_cons w W O ba room L l (.slice AL l.length cL) y z (HP1.out.below hB) (HT.out.below (below_then HP1.out.base hB)) hroom hy hz
                clear h2 ha0 ha1 HN0 HOP HOP0 HOK hlN2
                go_wp2_with fail
                go_region_with (first
                  | (go_at_call 29; refine (hpk _ (by first | exact Below.refl _ _ | exact (Below.refl _ _).drew | exact below_drewA (Below.refl _ _) _) _ (by assumption)).mono ?_; rintro e wq ⟨y, rfl, hy, hwq⟩; subst hwq)
                  | (go_at_call 75; refine (hcx _ (by first | exact Below.refl _ _ | exact (Below.refl _ _).drew | exact below_drewA (Below.refl _ _) _) _ _ (by assumption) (by assumption)).mono ?_; rintro e w5 ⟨x, er, O5, L5, rfl, hx5, hP5⟩; have HX5 := Lib.hid hx5; have HP5 := Lib.hid hP5))
                all_goals
                  go_simp
                  refine ‹∀ (a' : Act) (w' : World), Met _ a' w' → _› _ _ ?_
                  go_meet
                  exact ⟨x, er, O5, L5, rfl, rfl, HX5, HP5⟩
              · have hb : decide ((2 : Int) ≤ (op.N.length : Int)) = false := decide_eq_false (by omega)
                clear h2
                go_wp2_with fail
                go_meet
                exact ⟨_, _, O, L, rfl, rfl, Lib.hid (fun h => absurd h (by decide)), HP1⟩
            · have e3 : (op.kind == 3) = false := beq_eq_false_iff_ne.2 k3
              clear k1 k2 k3
              go_wp2_with fail
              go_meet
              exact ⟨_, _, O, L, rfl, rfl, Lib.hid (fun h => absurd h (by decide)), HP1⟩
      case rest =>
        obtain ⟨x, e, O', L', rfl, rfl, hfx, hP2⟩ := hcut
        have hsz2 := hP2.out.base.size
        clear hw0 o0 o1 o2 HP1 HB0 HOP HOP0 HOK hs0 hszw
        by_cases he : e = 0
        · subst he
          have HFX := Lib.hid (hfx.out rfl)
          obtain ⟨i0, hi, hz0, hz1, hz2⟩ := info_parts word_info
          go_wp2_with (at_builtin
                       refine wpList_append_own_at _ rfl (.tmp 84) (.tmp 86) _ rfl w.heap.size 27 i0 (.int .u64 0) 1 8 Tryd.underlying31 hi hz0 hz1 hz2 rfl (by decide) (.slice AL l.length cL) l.length (encW l) rfl (hP2.out.row.alloc _) ⟨wc.heap.size, 0, none⟩ 1 1 [.int .u64 x] rfl rfl (cell_one_new _ _ _) (by simp [Value.oneCell']) (by unfold maxLen; omega) (by omega) (by rw [World.size_alloc]; omega) ?_
                       intro v5 w5 hown5 hgrow5 hnil5 hat5)
          have HP5 := Lib.hid (hP2.out.add HFX.out (below_one wc _) hgrow5 hown5 hat5)
          go_roundw
          case rel => exact ⟨j + 1, O', L', l ++ [x], by omega, by omega, by rw [List.length_append, List.length_singleton]; omega, by go_num, HP5⟩
          case measure => simp [intOf]; omega
        · have eb : (e == 0) = false := beq_eq_false_iff_ne.2 he
          clear he
          go_wp2
          go_roundw
          case rel => exact ⟨j + 1, O', L', l, by omega, by omega, by omega, by go_num, hP2⟩
          case measure => simp [intOf]; omega
    · have hcase : (¬ j < ops.length ∧ decide ((j : Int) < (ops.length : Int)) = false) ∨ (j < ops.length ∧ decide ((j : Int) < (ops.length : Int)) = true ∧ ¬ j < 200 ∧ decide ((200 : Int) ≤ (j : Int)) = true) := by
        by_cases h : j < ops.length
        · exact .inr ⟨h, decide_eq_true (by omega), by omega, decide_eq_true (by omega)⟩
        · exact .inl ⟨h, decide_eq_false (by omega)⟩
      have HF := Lib.hid (hP.out.fin (by omega))
      clear hlt
      rcases hcase with ⟨hp1, hb1⟩ | ⟨hp1, hb1, hp2, hb2⟩
      · go_wp2
        go_ret2
        exact ⟨ba, O, L, l, AL, cL, rfl, HF.out⟩
      · obtain ⟨b, o, AT, AN, cT, cN, rfl, hop0⟩ := HR.out j hp1
        have hop := hop0.below hP.out.base
        have c0 := hop.k0
        have c1 := hop.k1
        have c2 := hop.k2
        have hj1 : (j : Int) < (ops.length : Int) := by omega
        have hj0 : (0 : Int) ≤ (j : Int) := Int.natCast_nonneg _
        have HF2 := Lib.hid ((hP.out.below (below_one wr (.cells #[.int .i64 ops[j].kind, .slice AT ops[j].T.length cT, .slice AN ops[j].N.length cN] 126))).fin (by omega))
        clear hop hop0
        go_wp2
        go_ret2
        exact ⟨ba, O, L, l, AL, cL, rfl, HF2.out⟩
end Go.Proofs.YthgnihckeckaiaaDoor.Tm
