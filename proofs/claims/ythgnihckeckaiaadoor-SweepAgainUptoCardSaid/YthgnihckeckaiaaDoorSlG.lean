/- SweepAgain: the walk. -/
import Derived.Test.YthgnihckeckaiaaDoorSwZ
import Derived.Test.YthgnihckeckaiaaDoorDpI
import Derived.Test.YthgnihckeckaiaaDoorSwD
import Derived.Test.YthgnihckeckaiaaDoorSwC
import Derived.WalkSmall
import Derived.Test.YthgnihckeckaiaaDoorSwA
import Derived.Test.YthgnihckeckaiaaDoorSwB
import Derived.Test.YthgnihckeckaiaaDoorSwT
import Derived.Test.YthgnihckeckaiaaDoorSwF
import Derived.Test.YthgnihckeckaiaaDoorSwK
import Derived.Test.YthgnihckeckaiaaDoorDpH
import Derived.Deep.AppendLies
import Derived.Deep.DrawnRows
namespace Go.Proofs.YthgnihckeckaiaaDoor.Tm
open Go.RowKit
set_option linter.unusedVariables false
set_option linter.unusedSimpArgs false

/-- A cell that holds a slice of cells. -/
def SlAt (w : World) (b o : Nat) (l : List CellD) : Prop := ∃ A c, w.cell? ⟨b, o, none⟩ = some (.slice A l.length c) ∧ l.length ≤ c ∧ Reads w A l
def Reads2 (w : World) (A : Option Addr) (ls : List (List CellD)) : Prop := ∀ j (h : j < ls.length), ∃ b o, A = some ⟨b, o, none⟩ ∧ SlAt w b (o + j) ls[j]
theorem SlAt.below {w W : World} {b o : Nat} {l : List CellD} (h : SlAt w b o l) (hB : Below w.heap.size w W) : SlAt W b o l := by
  obtain ⟨A, c, h0, h1, h2⟩ := h
  exact ⟨A, c, cell_below hB h0, h1, h2.below hB⟩
theorem Reads2.below {w W : World} {A : Option Addr} {ls : List (List CellD)} (h : Reads2 w A ls) (hB : Below w.heap.size w W) : Reads2 W A ls := fun j hj => by
  obtain ⟨b, o, e, hc⟩ := h j hj
  exact ⟨b, o, e, hc.below hB⟩
theorem Reads2.drewN {w : World} {A : Option Addr} {ls : List (List CellD)} (h : Reads2 w A ls) (n : Nat) : Reads2 (w.drewN n) A ls := h
theorem Reads2.nil (w : World) (A : Option Addr) : Reads2 w A [] := fun j hj => absurd hj (Nat.not_lt_zero j)
theorem row_form {w : World} {base n c : Nat} {e : TypeId} {size : Nat} {A : Option Addr} {xs : List Value} (h : w.ownsRow base e size (.slice A n c) n xs) (hn : 0 < n) : ∃ g, A = some ⟨g, 0, none⟩ ∧ base ≤ g ∧ g < w.heap.size := by
  rcases h.2 with ⟨_, h0⟩ | ⟨g, cap, cur, hv, hb, hh, _⟩
  · omega
  · obtain ⟨rfl, rfl⟩ : A = some ⟨g, 0, none⟩ ∧ c = cap := by simpa using hv
    exact ⟨g, rfl, hb, lt_of_block hh⟩
/-- Two rows whose element types differ share no block. -/
theorem rows_ne {w : World} {b b' : Nat} {e e' : TypeId} {s s' n n' : Nat} {v v' : Value} {xs xs' : List Value} (h : w.ownsRow b e s v n xs) (k : w.ownsRow b' e' s' v' n' xs') (hne : e ≠ e') : v.ownBlock = none ∨ v.ownBlock ≠ v'.ownBlock := by
  rcases h.2 with ⟨rfl, _⟩ | ⟨g, cap, cur, rfl, _, hh, _⟩
  · exact .inl rfl
  · rcases k.2 with ⟨rfl, _⟩ | ⟨g', cap', cur', rfl, _, kk, _⟩
    · exact .inr (by simp [Value.ownBlock])
    · refine .inr fun e1 => ?_
      have : g = g' := by simpa [Value.ownBlock] using e1
      subst this
      rw [hh] at kk
      injection kk with kk
      injection kk with _ kk
      exact hne kk
theorem sl_info : (Tryd.prog.info? 22).map (fun i => (i.zero, i.size, i.bytes)) = some (some (.slice none 0 0), 1, 24) := by kernel_rfl
/-- Slices that a row holds, each a term of the call's own with a property. -/
def Each (P : Option Addr → Nat → List CellD → Prop) (vs : List Value) (ls : List (List CellD)) : Prop :=
  vs.length = ls.length ∧ ∀ j (h : j < ls.length), ∃ A c, vs[j]? = some (.slice A ls[j].length c) ∧ P A c ls[j]
theorem Each.mono {P Q : Option Addr → Nat → List CellD → Prop} {vs : List Value} {ls : List (List CellD)} (h : Each P vs ls) (k : ∀ A c l, P A c l → Q A c l) : Each Q vs ls :=
  ⟨h.1, fun j hj => by
    obtain ⟨A, c, e, p⟩ := h.2 j hj
    exact ⟨A, c, e, k _ _ _ p⟩⟩
theorem Each.nil {P : Option Addr → Nat → List CellD → Prop} : Each P [] [] := ⟨rfl, fun j h => absurd h (Nat.not_lt_zero j)⟩
theorem Each.snoc {P : Option Addr → Nat → List CellD → Prop} {vs : List Value} {ls : List (List CellD)} {A : Option Addr} {c : Nat} {l : List CellD} (h : Each P vs ls) (p : P A c l) : Each P (vs ++ [.slice A l.length c]) (ls ++ [l]) := by
  refine ⟨by simp [h.1], fun j hj => ?_⟩
  by_cases e : j < ls.length
  · obtain ⟨A', c', e1, p1⟩ := h.2 j e
    refine ⟨A', c', ?_, ?_⟩
    · rw [List.getElem_append_left e, List.getElem?_append_left (by rw [h.1]; exact e)]; exact e1
    · rw [List.getElem_append_left e]; exact p1
  · have : j = ls.length := by simp at hj; omega
    subst this
    refine ⟨A, c, ?_, ?_⟩
    · rw [List.getElem?_append_right (by rw [h.1]; exact Nat.le_refl _)]; simp [h.1]
    · simpa using p
theorem Each.one {P : Option Addr → Nat → List CellD → Prop} {vs : List Value} {ls : List (List CellD)} (h : Each P vs ls) : ∀ u ∈ vs, u.oneCell' = true := by
  intro u hu
  obtain ⟨j, hj, rfl⟩ := List.mem_iff_getElem.1 hu
  obtain ⟨A, c, e, _⟩ := h.2 j (by rw [← h.1]; exact hj)
  rw [List.getElem?_eq_getElem hj] at e
  injection e with e
  rw [e]; rfl
theorem slice_one (A : Option Addr) (n c : Nat) : ∀ u ∈ [Value.slice A n c], u.oneCell' = true := by simp [Value.oneCell']
theorem row_cell1 {w : World} {base n c g : Nat} {e : TypeId} {xs : List Value} (h : w.ownsRow base e 1 (.slice (some ⟨g, 0, none⟩) n c) n xs) {j : Nat} {u : Value} (hu : xs[j]? = some u) : w.cell? ⟨g, j, none⟩ = some u := by
  have hj : j < xs.length := (List.getElem?_eq_some_iff.1 hu).1
  rw [h.cellAt j (by rw [← h.1]; exact hj)]; exact hu
/-- A row whose slices read as terms reads as those. -/
theorem Reads2.of_row {w : World} {base n c : Nat} {A : Option Addr} {e : TypeId} {vs rest : List Value} {ls : List (List CellD)} {P : Option Addr → Nat → List CellD → Prop} (h : w.ownsRow base e 1 (.slice A n c) n (vs ++ rest)) (hE : Each P vs ls)
    (hP : ∀ A c l, P A c l → l.length ≤ c ∧ Reads w A l) : Reads2 w A ls := fun j hj => by
  obtain ⟨Aj, cj, e1, p⟩ := hE.2 j hj
  have hv : j < vs.length := by rw [hE.1]; exact hj
  have hn : 0 < n := by have := h.1; simp at this; omega
  obtain ⟨g, rfl, _, _⟩ := row_form h hn
  refine ⟨g, 0, rfl, Aj, cj, ?_, (hP _ _ _ p).1, (hP _ _ _ p).2⟩
  rw [Nat.zero_add]
  exact row_cell1 h (by rw [List.getElem?_append_left hv]; exact e1)
def CellRow (W : World) (base : Nat) (A : Option Addr) (c : Nat) (l : List CellD) : Prop := W.ownsRow base 40 3 (.slice A l.length c) l.length (encs l)
/-- A row of rows of cells. -/
def TermsAt (W : World) (base : Nat) (v : Value) (ts : List (List CellD)) : Prop := ∃ vs, W.ownsRow base 22 1 v ts.length vs ∧ Each (CellRow W base) vs ts
theorem TermsAt.below {w W : World} {base : Nat} {v : Value} {ts : List (List CellD)} (h : TermsAt w base v ts) (hB : Below w.heap.size w W) : TermsAt W base v ts := by
  obtain ⟨vs, h1, h2⟩ := h
  exact ⟨vs, row_below h1 hB, h2.mono fun A c l k => row_below k hB⟩
theorem TermsAt.fr {w W : World} {base : Nat} {v : Value} {ts : List (List CellD)} {O : Nat → Prop} (h : TermsAt w base v ts) (hf : Fr O w W) (hO : ∀ k, O k → k < base) : TermsAt W base v ts := by
  obtain ⟨vs, h1, h2⟩ := h
  exact ⟨vs, row_fr h1 hf (fun k hk ho => by have := row_base h1 k hk; have := hO k ho; omega), h2.mono fun A c l k => row_fr k hf (fun b hb ho => by have := row_base k b hb; have := hO b ho; omega)⟩
theorem TermsAt.reads {W : World} {base : Nat} {A : Option Addr} {c : Nat} {ts : List (List CellD)} (h : TermsAt W base (.slice A ts.length c) ts) : Reads2 W A ts := by
  obtain ⟨vs, h1, h2⟩ := h
  exact Reads2.of_row (rest := []) (by simpa using h1) h2 (fun A c l k => ⟨row_cap k, Reads.of_row k⟩)
theorem TermsAt.add {w wa W : World} {base : Nat} {v v' : Value} {ts : List (List CellD)} {t : List CellD} {A : Option Addr} {c : Nat} {vs : List Value} (h1 : w.ownsRow base 22 1 v ts.length vs) (h2 : Each (CellRow w base) vs ts) (hB : Below w.heap.size w wa) (ht : CellRow wa base A c t) (hg : wa.grownBy W v.ownBlock)
    (hrow : W.ownsRow base 22 1 v' (ts.length + 1) (vs ++ [.slice A t.length c])) : TermsAt W base v' (ts ++ [t]) := by
  have hv := row_below h1 hB
  have keep : ∀ A c l, CellRow wa base A c l → CellRow W base A c l := fun A c l k => World.ownsRow.kept k hg (rows_ne k hv (by decide))
  refine ⟨vs ++ [.slice A t.length c], by rw [List.length_append, List.length_singleton]; exact hrow, ((h2.mono fun A c l k => keep A c l (row_below k hB)).snoc (keep _ _ _ ht))⟩
theorem TermsAt.snoc_len {W : World} {base : Nat} {v : Value} {ts : List (List CellD)} (h : TermsAt W base v ts) : ∃ A c, v = .slice A ts.length c := by
  obtain ⟨vs, h1, h2⟩ := h
  obtain ⟨A, c, e⟩ := row_slice h1
  exact ⟨A, c, e⟩
theorem TermsAt.nil (W : World) (base : Nat) : TermsAt W base (.slice none 0 0) [] := ⟨[], row_nil _ _ _ _, Each.nil⟩
theorem terms_list {L : List ObjA} : ∀ {l : List Int}, (∀ x ∈ l, ∃ T, Tells L [x] T) → ∃ ts : List (List CellD), ts.length = l.length ∧ ∀ j (h : j < l.length) (h' : j < ts.length), ∃ T, Tells L [l[j]] T ∧ ttOf T = ts[j]
  | [], _ => ⟨[], rfl, fun j h => absurd h (Nat.not_lt_zero j)⟩
  | x :: l, h => by
    obtain ⟨T, hT⟩ := h x (by simp)
    obtain ⟨ts, h1, h2⟩ := terms_list (l := l) (fun y hy => h y (by simp [hy]))
    refine ⟨ttOf T :: ts, by simp [h1], fun j hj hj' => ?_⟩
    cases j with
    | zero => exact ⟨T, hT, rfl⟩
    | succ j => exact h2 j (by simpa using hj) (by simpa using hj')
/-- One arena collected from another that lies whole. -/
structure ColP (L : List ObjA) (r R : List Int) (C : Nat) (L' : List ObjA) (f : Int → Int) : Prop where
  wf : WfA L'
  cells : ∀ o ∈ L', WfC o.cell
  used : usedA L' = C
  hom : HomW L L' R f
  ok : ∀ x ∈ r.map f, FindOk L' x
  all : allFind L' (r.map f) = true
  rch : rchW L' (r.map f) = R.map f
  cost : costsW L' (R.map f) = C
  fit : costsW L R = C
  roots : ∀ x ∈ r.map f, FindOk L' x ∧ (ptrW x = true → x ∈ R.map f)
  outs : ∀ x ∈ R.map f, FindOk L' x ∧ (ptrW x = true → x ∈ R.map f)
  len : R.length ≤ 262144
theorem col_p {L : List ObjA} (hw : WfA L) (hu : usedA L ≤ 262144) (hc : ∀ o ∈ L, WfC o.cell) {r : List Int} (hr : ∀ x ∈ r, FindOk L x) : ColP L r (rchW L r) (costsW L (rchW L r)) (colF L (rchW L r) (wordsA 0 L)).1 (wherM (colF L (rchW L r) (wordsA 0 L)).2) ∧ costsW L (rchW L r) ≤ usedA L := by
  have hR := rch_ok hw hr
  have hle := rch_used hw hu hR.met
  have K := col_ok hw hu hc hR.weak (by omega)
  have hroot : ∀ x ∈ r, FindOk L x ∧ (ptrW x = true → x ∈ rchW L r) := fun x hx => ⟨hr x hx, hR.roots x hx⟩
  have hok : ∀ x ∈ r.map (wherM (colF L (rchW L r) (wordsA 0 L)).2), FindOk (colF L (rchW L r) (wordsA 0 L)).1 x := fun x hx => by
    obtain ⟨y, hy, rfl⟩ := List.mem_map.1 hx
    exact (K.hom.ptr (hroot y hy).1 (hroot y hy).2).2.1
  have hrch := (K.hom.rch hw K.wf hroot).1
  have hR2 := rch_ok K.wf hok
  rw [hrch] at hR2
  have hlen := hR.met.len
  have hl := hw.len
  exact ⟨{ wf := K.wf, cells := K.cells, used := K.used, hom := K.hom, ok := hok,
           all := List.all_eq_true.2 (fun x hx => (hok x hx).1), rch := hrch, cost := K.hom.costs _ (fun x hx => hx), fit := rfl,
           roots := fun x hx => ⟨hok x hx, hR2.roots x hx⟩, outs := fun x hx => ⟨(hR2.met.ok x hx).1, fun _ => hx⟩, len := by omega }, hle⟩
/-- The roots, each twice, the other way round. -/
def twiceW : List Int → List Int
  | [] => []
  | x :: l => twiceW l ++ [x, x]
theorem twice_mem {l : List Int} {x : Int} : x ∈ twiceW l ↔ x ∈ l := by
  induction l with
  | nil => simp [twiceW]
  | cons a l ih => simp [twiceW, ih, or_comm]
theorem twice_len (l : List Int) : (twiceW l).length = 2 * l.length := by
  induction l with
  | nil => rfl
  | cons a l ih => simp [twiceW, ih]; omega
theorem twice_drop {l : List Int} {j : Nat} (h : j < l.length) : twiceW (l.drop j) = twiceW (l.drop (j + 1)) ++ [l[j], l[j]] := by
  rw [List.drop_eq_getElem_cons h]
  rfl
theorem twice_all {L : List ObjA} {r : List Int} (h : ∀ x ∈ r, FindOk L x) : allFind L (twiceW r) = true := List.all_eq_true.2 (fun x hx => (h x (twice_mem.1 hx)).1)
theorem twice_same {L : List ObjA} (hw : WfA L) {r : List Int} (h : ∀ x ∈ r, FindOk L x) : costsW L (rchW L (twiceW r)) = costsW L (rchW L r) := rch_same hw (fun x hx => h x (twice_mem.1 hx)) h (fun x => twice_mem)
end Go.Proofs.YthgnihckeckaiaaDoor.Tm
namespace Go.Proofs.YthgnihckeckaiaaDoor.Tm
open Go.RowKit Go.Shelf
set_option linter.unusedVariables false
set_option linter.unusedSimpArgs false

structure TwSt (w w5 wr : World) (T : List Int) (v : Value) : Prop where
  row : wr.ownsRow w5.heap.size 27 1 v T.length (encW T)
  base : Below w5.heap.size w5 wr
set_option maxRecDepth 10000 in
set_option maxHeartbeats 16000000 in
theorem sweepAgain_row (A : Option Addr) (cap : Nat) (ops : List Op4) (A1 : Option Addr) (cap1 : Nat) (rs : List RootD) (At : Option Addr) (capt : Nat) (t : List CellD) (w : World) (hT : TabsA w) (hcap : ops.length ≤ cap) (hr : Script4 w A ops) (hk : ∀ op ∈ ops, Op4Ok op) (hl : ops.length ≤ 1000000000000000) (hcap1 : rs.length ≤ cap1) (hrr : RtReads w A1 rs) (hrk : ∀ j (h : j < rs.length), RootOk rs[j]) (hrl : rs.length ≤ 1048576) (hcapt : t.length ≤ capt) (htr : Reads w At t) (hts : ∀ j (h : j < t.length), WfC t[j]) (hty : t.length ≤ 1048576) :
    Calls Tryd.prog 16 #[.slice A ops.length cap, .slice A1 rs.length cap1, .slice At t.length capt] w fun e w' => e = .returned (.bool true) ∧ Below w.heap.size w w' := by
  have hmk := smade_any w ops A cap hT hr hk hl hcap
  have HT := Lib.hid hT
  have HRR := Lib.hid hrr
  have HRK := Lib.hid hrk
  have HTR := Lib.hid htr
  have HTS := Lib.hid hts
  have hAlt : t.length ≠ 0 → ∀ g o, At = some ⟨g, o, none⟩ → g < w.heap.size := fun h0 g o e => by
    obtain ⟨g', o', e', hc⟩ := htr 0 (by omega)
    rw [e] at e'
    cases e'
    exact cell_lt hc.1
  have HAL := Lib.hid hAlt
  have hkn := fun V (hb : Below w.heap.size w V) => sknown_any V (hT.below hb)
  have HK := Lib.hid hkn
  clear hT hr hk hrr hrk hkn htr hts hAlt
  go_enter Tryd.func16, Tryd.ntmps16
  go_wp2_with fail
  refine hmk.mono ?_
  rintro e w1 ⟨ba, O, L, rfl, hS⟩
  have HS := Lib.hid hS
  have hch := chosen23_any w1 O ba 20000 L rs A1 cap1 hS.ar (HRR.out.below hS.base) HRK.out (by omega)
  clear hmk hS
  go_wp2_with fail
  refine hch.mono ?_
  rintro e w2 ⟨A2, c2, r, rfl, hC⟩
  have HB2 := Lib.hid (below_then HS.out.base hC.base)
  have HR2 := Lib.hid (WReads.of_row hC.row)
  have hrlen := hC.len
  have HRNG := Lib.hid hC.rng
  have HA2 := Lib.hid (HS.out.ar.below hC.base)
  have HCELLS := Lib.hid HS.out.cells
  have HOW := Lib.hid HS.out.own
  have HOL := Lib.hid (show ∀ k, O k → k < w2.heap.size from fun k hk => (HA2.out.lim k hk).2)
  have hrle : r.length ≤ 1048576 := by omega
  have hul := HA2.out.lims
  have hll := HA2.out.wf.len
  have e31 : ((31 : Int) != 0) = true := rfl
  have e00 : ((0 : Int) != 0) = false := rfl
  clear hch hC hrlen HS
  by_cases hall : allFind L r = true
  · have hxo : ∀ x ∈ r, FindOk L x := fun x q => ⟨(List.all_eq_true.1 hall) x q, HRNG.out x q⟩
    obtain ⟨hP, hcu⟩ := col_p HA2.out.wf (by omega) HCELLS.out hxo
    have hcl := collect_any w2 O ba 20000 L r A2 c2 20000 HA2.out (HT.out.below HB2.out) HCELLS.out HR2.out HRNG.out (by omega) hall (by omega) (by omega)
    have hC2 : costsW L (rchW L r) ≤ 20000 := by omega
    have hlv := fun V (hb : Below w2.heap.size w2 V) A c (hr : WReads V A (twiceW r)) => slive_any V O ba 20000 L (twiceW r) A c (HA2.out.below hb) (HT.out.below (below_then HB2.out hb)) HCELLS.out hr (fun x hx => HRNG.out x (twice_mem.1 hx)) (by rw [twice_len]; omega)
    have e1 : rootE L (twiceW r) = 0 := by unfold rootE; rw [if_pos (twice_all hxo)]
    have e2 : rchX L (twiceW r) = rchW L (twiceW r) := by unfold rchX; rw [if_pos (twice_all hxo)]
    simp only [e1, e2, twice_same HA2.out.wf hxo, twice_len] at hlv
    have HLV := Lib.hid hlv
    have HALL := Lib.hid hall
    clear hlv e1 e2 hall hcu
    go_wp2_with fail
    refine hcl.mono ?_
    rintro e w5 ⟨tb, O', A5, c5, rfl, hR5⟩
    have HA5 := Lib.hid hR5.ar
    have HO5 := Lib.hid hR5.own
    have HROW5 := Lib.hid (show w5.ownsRow w2.heap.size 27 1 (.slice A5 (r.map (wherM (colF L (rchW L r) (wordsA 0 L)).2)).length c5) (r.map (wherM (colF L (rchW L r) (wordsA 0 L)).2)).length (encW (r.map (wherM (colF L (rchW L r) (wordsA 0 L)).2))) from by rw [List.length_map]; exact hR5.row)
    have HB5 := Lib.hid hR5.base
    have HP := Lib.hid hP
    obtain ⟨L', hL'⟩ : ∃ L', (colF L (rchW L r) (wordsA 0 L)).1 = L' := ⟨_, rfl⟩
    obtain ⟨f, hf⟩ : ∃ f, wherM (colF L (rchW L r) (wordsA 0 L)).2 = f := ⟨_, rfl⟩
    obtain ⟨C, hC⟩ : ∃ C, costsW L (rchW L r) = C := ⟨_, rfl⟩
    simp only [hL', hf, hC] at HA5 HROW5 HP HLV hC2
    obtain ⟨R, hR⟩ : ∃ R, rchW L r = R := ⟨_, rfl⟩
    simp only [hR] at HP
    clear hL' hf hC hR hcl hR5 hP hxo
    have hRl := HP.out.len
    have hus := fun V (hb : Below w5.heap.size w5 V) => used_same V O' tb 20000 L' (HA5.out.below hb)
    simp only [HP.out.used] at hus
    have HUS := Lib.hid hus
    obtain ⟨ts, htl, hts⟩ := terms_list (L := L') (l := r.map f) (fun x hx => tells_exists HP.out.wf (HP.out.ok x hx).1)
    have htl2 : ts.length = r.length := by rw [htl, List.length_map]
    have HTL := Lib.hid htl2
    have HTE := Lib.hid (show ∀ j (h : j < r.length) (h' : j < ts.length), ∃ T, Tells L' [f r[j]] T ∧ ttOf T = ts[j] from fun j h h' => by
      have h := hts j (by rw [List.length_map]; exact h) h'
      rw [map_at (by assumption)] at h
      exact h)
    have HFO := Lib.hid (show ∀ j (h : j < r.length), FindOk L' (f r[j]) from fun j h => HP.out.ok _ (List.mem_map.2 ⟨r[j], List.getElem_mem h, rfl⟩))
    clear hus htl hts htl2
    have hrr : ((r.length : Int) != (r.length : Int)) = false := by simp
    have hr0 : (0 : Int) ≤ (r.length : Int) := Int.natCast_nonneg _
    have hwl : IntKind.i64.wrap ((r.length : Int) - 1) = (r.length : Int) - 1 := by rw [IntKind.wrap_i64]; omega
    obtain ⟨i0, hi, hz0, hz1, hz2⟩ := info_parts word_info
    have hs5 := HB5.out.size
    have hCC : ((C : Int) != (C : Int)) = false := by simp
    go_wp2_with fail
    go_loopw [12, 13] (fun v i wr => ∃ j : Nat, j ≤ r.length ∧ i = .int .i64 ((j : Int) - 1) ∧ Hid (TwSt w w5 wr (twiceW (r.drop j)) v)) (fun v i wr => (intOf i + 1).toNat)
    case atStart => exact ⟨r.length, Nat.le_refl _, rfl, Lib.hid ⟨by rw [List.drop_length]; exact row_nil _ _ _ _, Below.refl _ _⟩⟩
    case round =>
      obtain ⟨j, hj, rfl, hS⟩ := hrel
      rcases j with _ | k
      · rw [show ((0 : Nat) : Int) - 1 = -1 by omega]
        have hlb : decide ((0 : Int) ≤ -1) = false := rfl
        have hrow := hS.out.row
        rw [List.drop_zero] at hrow
        have HBw := Lib.hid hS.out.base
        obtain ⟨AT, cT, hv⟩ := row_slice hrow
        rw [twice_len] at hv
        subst hv
        have HTW := Lib.hid (WReads.of_row (show wr.ownsRow w5.heap.size 27 1 (.slice AT (twiceW r).length cT) (twiceW r).length (encW (twiceW r)) from by rw [twice_len] at hrow ⊢; exact hrow))
        have hli := HLV.out wr (below_then HB5.out HBw.out) AT cT HTW.out
        clear hS hrow
        go_wp2_with fail
        refine hli.mono ?_
        rintro e w6 ⟨rfl, hb6⟩
        have HB6 := Lib.hid (below_then HBw.out hb6)
        have hus := HUS.out w6 HB6.out
        clear hli hb6 HTW
        go_wp2_with fail
        refine hus.mono ?_
        rintro e w6' ⟨rfl, hw6'⟩
        subst hw6'
        clear hus
        go_wp2_with fail
        obtain ⟨j0, ji, jz0, jz1, jz2⟩ := info_parts sl_info
        go_loopw [16, 17] (fun v i wr => ∃ j : Nat, j ≤ r.length ∧ i = .int .i64 (j : Int) ∧ Hid (TermsAt wr w6.heap.size v (ts.take j)) ∧ Hid (Below w6.heap.size w6 wr)) (fun v i wr => r.length - (intOf i).toNat)
        case atStart => exact ⟨0, Nat.zero_le _, rfl, Lib.hid (TermsAt.nil _ _), Lib.hid (Below.refl _ _)⟩
        case round =>
          obtain ⟨j, hj, rfl, hS, hB⟩ := hrel
          have hszr := hB.out.size
          have hlen : (ts.take j).length = j := by rw [List.length_take, HTL.out]; omega
          have hj0 : (0 : Int) ≤ (j : Int) := Int.natCast_nonneg _
          by_cases hlt : j < r.length
          · obtain ⟨g, o, rfl, p0⟩ := row_map (WReads.of_row (row_below HROW5.out (below_then HB6.out hB.out))) hlt
            have hjt : j < ts.length := by rw [HTL.out]; exact hlt
            obtain ⟨T, hT, hTt⟩ := HTE.out j hlt hjt
            have hfo := HFO.out j hlt
            have HTK := Lib.hid (List.take_succ_eq_append_getElem hjt)
            obtain ⟨y, hy⟩ : ∃ y, f r[j] = y := ⟨_, rfl⟩
            obtain ⟨tt, htt⟩ : ∃ tt, ts[j] = tt := ⟨_, rfl⟩
            rw [hy] at p0 hT hfo
            rw [htt] at hTt HTK
            have hg := get_tt wr O' tb 20000 L' y T hfo.2.1 hfo.2.2 (HA5.out.below (below_then HB6.out hB.out)) hT
            obtain ⟨er, her⟩ : ∃ er, erOf T = er := ⟨_, rfl⟩
            rw [hTt, her] at hg
            have hj1 : (j : Int) < (r.length : Int) := by omega
            have hbl : decide ((j : Int) < (r.length : Int)) = true := decide_eq_true hj1
            have hwj : IntKind.i64.wrap ((j : Int) + 1) = (j : Int) + 1 := by rw [IntKind.wrap_i64]; omega
            obtain ⟨vs, h1, h2⟩ := hS.out
            obtain ⟨Av, cv, hv⟩ := row_slice h1
            rw [hlen] at hv h1
            subst hv
            have H1 := Lib.hid h1
            have H2 := Lib.hid h2
            have HL := Lib.hid hlen
            clear hy htt her hT hTt hfo h1 h2 hlen hS
            go_wp2_with fail
            refine hg.mono ?_
            rintro e w7 ⟨⟨A7, c7, rfl, hrow7⟩, hb7⟩
            have HR7 := Lib.hid (row_mono hrow7 hszr)
            have H17 := Lib.hid (row_below H1.out hb7)
            have HB7 := Lib.hid hb7
            have hs7 := hb7.size
            clear hg hrow7 hb7 p0
            go_wp2_with (at_builtin
                         refine wpList_append_own_at _ rfl (.tmp 107) (.tmp 109) _ rfl w6.heap.size 22 j0 (.slice none 0 0) 1 24 Tryd.underlying95 ji jz0 jz1 jz2 rfl (by decide) (.slice Av j cv) j vs rfl (H17.out.alloc _) ⟨w7.heap.size, 0, none⟩ 1 1 [.slice A7 tt.length c7] rfl rfl (cell_one_new _ _ _) (slice_one _ _ _) (by unfold maxLen; omega) (by omega) (by rw [World.size_alloc]; omega) ?_
                         intro v8 w8 hown8 hgrow8 hnil8 hat8)
            have HS8 := Lib.hid (show TermsAt w8 w6.heap.size v8 (ts.take (j + 1)) by
              rw [HTK.out]
              exact TermsAt.add (by rw [HL.out]; exact H1.out) H2.out (below_alloc' HB7.out _) (HR7.out.alloc _) hgrow8 (by rw [HL.out]; exact hown8))
            have HB8 := Lib.hid (below_grown (below_alloc' (below_then hB.out HB7.out) _) hgrow8 (row_base H1.out))
            go_roundw
            case rel => exact ⟨j + 1, hlt, by go_num, HS8, HB8⟩
            case measure => simp [intOf]; omega
          · have hjl : j = r.length := by omega
            have hst := hS.out
            rw [List.take_of_length_le (by rw [HTL.out]; omega)] at hst
            obtain ⟨Av, cv, hv⟩ := hst.snoc_len
            rw [HTL.out] at hv
            subst hv
            have HTM := Lib.hid hst
            have HB7 := Lib.hid (below_then HB6.out hB.out)
            have hbl : decide ((j : Int) < (r.length : Int)) = false := decide_eq_false (by omega)
            have htd := stold_any wr O' tb 20000 L' (r.map f) A5 c5 0 (HA5.out.below HB7.out) (WReads.of_row (row_below HROW5.out HB7.out)) (fun x hx => (HP.out.ok x hx).2) (by rw [List.length_map]; omega) HP.out.all (by omega)
            have e0 : takeM (rchW L' (r.map f)) 0 = R.map f := HP.out.rch
            rw [e0] at htd
            simp only [List.length_map] at htd
            clear hS hst hjl hlen e0
            go_wp2_with fail
            refine htd.mono ?_
            rintro e w8 ⟨A8, c8, rfl, hrow8, hb8⟩
            have HROW8 := Lib.hid hrow8
            have HB8 := Lib.hid (below_then HB7.out hb8)
            have HTM8 := Lib.hid (HTM.out.below hb8)
            have hs8 := hb8.size
            have hs8b := HB8.out.size
            have hs6 := HB6.out.size
            have HROW58 := Lib.hid (row_below HROW5.out HB8.out)
            have HA58 := Lib.hid (HA5.out.below HB8.out)
            have hB28 := below_then HB5.out HB8.out
            have HB28 := Lib.hid hB28
            have HBW8 := Lib.hid (below_then HB2.out hB28)
            have hclr := clear_any w8 O ba 20000 L (HA2.out.below hB28)
            clear htd hrow8 hb8 hB28 HTM HB7
            go_wp2_with fail
            refine hclr.mono ?_
            rintro e w9 ⟨⟨v9, rfl⟩, hM9⟩
            obtain ⟨O9, hA9, _, hO9, hf9⟩ := hM9
            have hs9 := hf9.size
            have HBW9 := Lib.hid (show Below w.heap.size w w9 from HBW8.out.trans (hf9.below HBW8.out.size HOW.out))
            have hput := put_any w9 O9 ba 20000 [] t At capt hA9 (HT.out.below HBW9.out) (HTR.out.below HBW9.out) (fun h0 g o e ho => by
              have h1 := HAL.out h0 g o e
              have h2 := HBW8.out.size
              rcases hO9 _ ho with h | h
              · have := HOW.out _ h
                omega
              · omega) HTS.out (by omega)
            have HF9 := Lib.hid hf9
            have HO9 := Lib.hid hO9
            clear hclr hA9 hf9 hO9
            go_wp2_with fail
            refine hput.mono ?_
            rintro e w10 ⟨rfl, hM10⟩
            obtain ⟨O10, _, _, _, hf10⟩ := hM10
            have HF10 := Lib.hid (HF9.out.trans' hf10 (fun i hi ho => (HO9.out i ho).elim id (fun h => absurd hi (by omega))))
            have HBW10 := Lib.hid (show Below w.heap.size w w10 from HBW8.out.trans (HF10.out.below HBW8.out.size HOW.out))
            have hs10 := HF10.out.size
            have HA10 := Lib.hid (HA58.out.fr HF10.out (fun k hk ho => by have := HO5.out k hk; have := HOL.out k ho; omega))
            have HROW10 := Lib.hid (row_fr HROW58.out HF10.out (fun k hk ho => by have := row_base HROW58.out k hk; have := HOL.out k ho; omega))
            have HTM10 := Lib.hid (HTM8.out.fr HF10.out (fun k hk => by have := HOL.out k hk; omega))
            have HRW10 := Lib.hid (row_fr HROW8.out HF10.out (fun k hk ho => by have := row_base HROW8.out k hk; have := HOL.out k ho; omega))
            clear hput hf10 HF9 HO9 HTM8 HROW58 HA58 hs9 HROW8
            go_wp2_with fail
            go_loopw [22] (fun i wr => ∃ j : Nat, j ≤ r.length ∧ i = .int .i64 (j : Int) ∧ Hid (Below w10.heap.size w10 wr)) (fun i wr => r.length - (intOf i).toNat)
            case atStart => exact ⟨0, Nat.zero_le _, rfl, Lib.hid (Below.refl _ _)⟩
            case round =>
              obtain ⟨q, hq, rfl, hB⟩ := hrel
              have hq0 : (0 : Int) ≤ (q : Int) := Int.natCast_nonneg _
              by_cases hlq : q < r.length
              · obtain ⟨g, o, eA, p0⟩ := row_map (WReads.of_row (row_below HROW10.out hB.out)) hlq
                have hqt : q < ts.length := by rw [HTL.out]; exact hlq
                obtain ⟨T, hT, hTt⟩ := HTE.out q hlq hqt
                have hfo := HFO.out q hlq
                obtain ⟨gt, ot, eT, hsl⟩ := ((show TermsAt w10 w6.heap.size (.slice Av ts.length cv) ts from by rw [HTL.out]; exact HTM10.out).reads.below hB.out) q hqt
                obtain ⟨Ax, cx, p1, hcx, hrx⟩ := hsl
                have htl := ttOf_len T
                obtain ⟨y, hy⟩ : ∃ y, f r[q] = y := ⟨_, rfl⟩
                obtain ⟨tt, htt⟩ : ∃ tt, ts[q] = tt := ⟨_, rfl⟩
                rw [hy] at p0 hT hfo
                rw [htt] at hTt hrx hcx p1
                rw [hTt] at htl
                have hg := get_tt wr O' tb 20000 L' y T hfo.2.1 hfo.2.2 (HA10.out.below hB.out) hT
                obtain ⟨er, her⟩ : ∃ er, erOf T = er := ⟨_, rfl⟩
                rw [hTt, her] at hg
                have HRX := Lib.hid hrx
                have hq1 : (q : Int) < (r.length : Int) := by omega
                have hbl : decide ((q : Int) < (r.length : Int)) = true := decide_eq_true hq1
                have hwq : IntKind.i64.wrap ((q : Int) + 1) = (q : Int) + 1 := by rw [IntKind.wrap_i64]; omega
                cases eA
                cases eT
                clear hy htt her hT hTt hfo hrx
                go_wp2_with fail
                refine hg.mono ?_
                rintro e wa ⟨⟨Aa, ca, rfl, hrowa⟩, hba⟩
                have HBa := Lib.hid hba
                have q1 := cell_below hba p1
                have hsm := rsame_any Aa Ax ca cx tt tt wa (Reads.of_row hrowa) (HRX.out.below hba) (by omega) (by omega)
                rw [show decide (tt = tt) = true by simp] at hsm
                clear hg hrowa hba p0 p1
                go_wp2_with fail
                refine hsm.mono ?_
                rintro e wb ⟨rfl, hbb⟩
                have HBb := Lib.hid (below_then hB.out (below_then HBa.out hbb))
                clear hsm hbb q1
                go_wp2
                go_roundw
                case rel => exact ⟨q + 1, by omega, by go_num, HBb⟩
                case measure => simp [intOf]; omega
              · have hbl : decide ((q : Int) < (r.length : Int)) = false := decide_eq_false (by omega)
                have hus := used_same wr O' tb 20000 L' (HA10.out.below hB.out)
                rw [HP.out.used] at hus
                obtain ⟨hP2, hcu2⟩ := col_p HP.out.wf (by rw [HP.out.used]; omega) HP.out.cells HP.out.ok
                rw [HP.out.rch, HP.out.cost] at hP2
                have HBWr := Lib.hid (below_then HBW10.out hB.out)
                have hcl := collect_any wr O' tb 20000 L' (r.map f) A5 c5 C (HA10.out.below hB.out) (HT.out.below HBWr.out) HP.out.cells (WReads.of_row (row_below HROW10.out hB.out)) (fun x hx => (HP.out.ok x hx).2) (by rw [List.length_map]; omega) HP.out.all (by omega) (by rw [HP.out.rch, HP.out.cost]; exact Nat.le_refl _)
                simp only [List.length_map] at hcl
                clear hcu2
                go_wp2_with fail
                refine hus.mono ?_
                rintro e wr' ⟨rfl, hwr'⟩
                subst hwr'
                clear hus
                go_wp2_with fail
                refine hcl.mono ?_
                rintro e w11 ⟨tc, Oc, A11, c11, rfl, hR11⟩
                have h11 := hR11.ar
                have h11r := hR11.row
                have h11b := hR11.base
                rw [HP.out.rch] at h11 h11r
                obtain ⟨L2, hL2⟩ : ∃ L2, (colF L' (R.map f) (wordsA 0 L')).1 = L2 := ⟨_, rfl⟩
                obtain ⟨g2, hg2⟩ : ∃ g2, wherM (colF L' (R.map f) (wordsA 0 L')).2 = g2 := ⟨_, rfl⟩
                rw [hL2] at h11 hP2
                rw [hg2] at h11r hP2
                have HA11 := Lib.hid h11
                have HW11 := Lib.hid (WReads.of_row (show w11.ownsRow wr.heap.size 27 1 (.slice A11 ((r.map f).map g2).length c11) ((r.map f).map g2).length (encW ((r.map f).map g2)) from by rw [List.length_map]; exact h11r))
                have HB11 := Lib.hid (below_then hB.out h11b)
                have HP2 := Lib.hid hP2
                clear hcl hR11 h11 h11r h11b hL2 hg2 hP2
                have hu1 := used_same w11 Oc tc C L2 HA11.out
                rw [HP2.out.used] at hu1
                go_wp2_with fail
                refine hu1.mono ?_
                rintro e w11' ⟨rfl, hw11'⟩
                subst hw11'
                have hu2 := used_same w11 O' tb 20000 L' (HA10.out.below HB11.out)
                rw [HP.out.used] at hu2
                clear hu1
                go_wp2_with fail
                refine hu2.mono ?_
                rintro e w11' ⟨rfl, hw11'⟩
                subst hw11'
                have hro := room_any w11 Oc tc C L2 HA11.out
                rw [HP2.out.used, show (C : Int) - (C : Int) = 0 by omega] at hro
                clear hu2
                go_wp2_with fail
                refine hro.mono ?_
                rintro e w12 ⟨rfl, hb12⟩
                have HB12 := Lib.hid (below_then HB11.out hb12)
                have HA12 := Lib.hid (HA11.out.below hb12)
                have HW12 := Lib.hid (HW11.out.below hb12)
                have hpa := pairs_any w12 O' Oc tb tc 20000 C L' L2 (R.map f) g2 (r.map f) A5 A11 c5 c11 (HA10.out.below HB12.out) HA12.out HP2.out.hom HP.out.roots (WReads.of_row (row_below HROW10.out HB12.out)) HW12.out (by rw [List.length_map]; omega)
                simp only [List.length_map] at hpa
                clear hro hb12 HA11 HW11
                go_wp2_with fail
                refine hpa.mono ?_
                rintro e w13 ⟨rfl, hb13⟩
                have HB13 := Lib.hid (below_then HB12.out hb13)
                have HA13 := Lib.hid (HA12.out.below hb13)
                have HW13 := Lib.hid (HW12.out.below hb13)
                have htd := stold_any w13 Oc tc C L2 ((r.map f).map g2) A11 c11 0 HA13.out HW13.out (fun x hx => (HP2.out.ok x hx).2) (by rw [List.length_map, List.length_map]; omega) HP2.out.all (by omega)
                have e0 : takeM (rchW L2 ((r.map f).map g2)) 0 = (R.map f).map g2 := HP2.out.rch
                rw [e0] at htd
                simp only [List.length_map] at htd
                clear hpa hb13 HA12 HW12 e0
                go_wp2_with fail
                refine htd.mono ?_
                rintro e w14 ⟨A14, c14, rfl, hrow14, hb14⟩
                have HB14 := Lib.hid (below_then HB13.out hb14)
                have HA14 := Lib.hid (HA13.out.below hb14)
                have HW14 := Lib.hid (WReads.of_row (show w14.ownsRow w13.heap.size 27 1 (.slice A14 ((R.map f).map g2).length c14) ((R.map f).map g2).length (encW ((R.map f).map g2)) from by rw [List.length_map, List.length_map]; exact hrow14))
                have hpb := pairs_any w14 O' Oc tb tc 20000 C L' L2 (R.map f) g2 (R.map f) A8 A14 c8 c14 (HA10.out.below HB14.out) HA14.out HP2.out.hom HP.out.outs (WReads.of_row (show w14.ownsRow _ 27 1 (.slice A8 (R.map f).length c8) (R.map f).length (encW (R.map f)) from by rw [List.length_map]; exact row_below HRW10.out HB14.out)) HW14.out (by rw [List.length_map]; omega)
                simp only [List.length_map] at hpb
                have hRR : ((R.length : Int) == (R.length : Int)) = true := by simp
                clear htd hrow14 hb14 HA13 HW13
                go_wp2_with fail
                refine hpb.mono ?_
                rintro e w15 ⟨rfl, hb15⟩
                have HB15 := Lib.hid (below_then HBW10.out (below_then HB14.out hb15))
                have hkk := HK.out w15 HB15.out
                clear hpb hb15
                go_wp2_with fail
                refine hkk.mono ?_
                rintro e wz ⟨rfl, hbz⟩
                go_wp2
                go_ret
                exact ⟨rfl, below_then HB15.out hbz⟩
      · have ek : ((k + 1 : Nat) : Int) - 1 = (k : Int) := by omega
        rw [ek]
        have hlb : decide ((0 : Int) ≤ (k : Int)) = true := decide_eq_true (by omega)
        have hk0 : (0 : Int) ≤ (k : Int) := by omega
        have hkr : (k : Int) < (r.length : Int) := by omega
        have hkl : k < r.length := by omega
        have hwk : IntKind.i64.wrap ((k : Int) - 1) = (k : Int) - 1 := by rw [IntKind.wrap_i64]; omega
        obtain ⟨g, o, rfl, p0⟩ := (HR2.out.below (below_then HB5.out hS.out.base)) k hkl
        have TD := Lib.hid (twice_drop hkl)
        have hTl : (twiceW (r.drop (k + 1))).length ≤ 2097152 := by rw [twice_len, List.length_drop]; omega
        obtain ⟨T, hT⟩ : ∃ T, twiceW (r.drop (k + 1)) = T := ⟨_, rfl⟩
        obtain ⟨x, hx⟩ : ∃ x, r[k] = x := ⟨_, rfl⟩
        rw [hT] at hS hTl TD
        rw [hx] at p0 TD
        obtain ⟨AT, cT, hv⟩ := row_slice hS.out.row
        subst hv
        have hsr := hS.out.base.size
        have hA1 : T.length + 2 ≤ maxLen := by unfold maxLen; omega
        have hA2 : (T.length + 2) * 8 ≤ 140737488355328 := by omega
        have hA3 : w5.heap.size ≤ (wr.drew.alloc (.cells #[.int .u64 x, .int .u64 x] 27)).heap.size := by rw [World.size_alloc]; exact Nat.le_succ_of_le hsr
        clear hT hx
        go_wp2_with fail
        go_region_law (refine step_append_lies _ (by rfl) _ _ _ (by rfl) w5.heap.size 27 i0 _ 1 8 Tryd.underlying31 hi hz0 hz1 hz2 rfl (by omega) (.slice AT T.length cT) T.length (encW T) (by rfl) ((row_below hS.out.row ((Below.refl _ _).drew)).alloc _) ⟨wr.heap.size, 0, none⟩ 2 2 [.int .u64 x, .int .u64 x] (by rfl) (by rfl) (World.news_of_block (cs := #[.int .u64 x, .int .u64 x]) (t := 27) (fr := (0, 0)) (heap_alloc_new wr.drew _)) (by simp [Value.oneCell']) (by omega) hA1 hA2 hA3 (wr.heap.size + 1) (World.size_alloc _ _) ?_; intro g7 cap7 w7 hown7 hgrow7 hat7 hlt7)
        all_goals
          have HS7 := Lib.hid (show TwSt w w5 w7 (T ++ [x, x]) (.slice (some ⟨g7, 0, none⟩) (T.length + 2) cap7) from ⟨by
            have e : encW T ++ [.int .u64 x, .int .u64 x] = encW (T ++ [x, x]) := by simp [encW]
            rw [List.length_append, ← e]; exact hown7, below_grown (below_alloc' (hS.out.base.drew) _) hgrow7 (row_base hS.out.row)⟩)
        all_goals clear hown7 hgrow7 hat7 hlt7 p0 hS
        all_goals go_wp2_with fail
        all_goals go_roundw
        all_goals first
          | exact ⟨k, by omega, rfl, by rw [TD.out]; exact HS7⟩
          | (simp [intOf]; done)
          | (simp [intOf]; omega)
  · have hcl := collect_bad w2 O ba 20000 L r A2 c2 20000 HA2.out (HT.out.below HB2.out) HCELLS.out HR2.out HRNG.out (by omega) hall
    clear hall
    go_wp2_with fail
    refine hcl.mono ?_
    rintro e w3 ⟨rfl, hb3⟩
    have HB3 := Lib.hid (below_then HB2.out hb3)
    have hkk := HK.out w3 HB3.out
    clear hcl hb3
    go_wp2_with fail
    refine hkk.mono ?_
    rintro e wz ⟨rfl, hbz⟩
    go_wp2
    go_ret
    exact ⟨rfl, below_then HB3.out hbz⟩
end Go.Proofs.YthgnihckeckaiaaDoor.Tm
