/- The law's terms; SameAll. -/
import Derived.Test.YtemamhjcboelcaaDoorDpF
import Derived.Handy
import Derived.Maps.AppendAt
import Derived.WalkSmall
import Derived.Deep.DrawnRows
namespace Go.Proofs.YtemamhjcboelcaaDoor.Tm
open Go.RowKit
set_option linter.unusedVariables false
set_option linter.unusedSimpArgs false
attribute [local go_sem ↓] Go.wp_at_zero Go.wp_at_succ

/-- A cell that holds a slice of cells. -/
def SlAt (w : World) (b o : Nat) (l : List CellD) : Prop := ∃ A c, w.cell? ⟨b, o, none⟩ = some (.slice A l.length c) ∧ l.length ≤ c ∧ Reads w A l
def Reads2 (w : World) (A : Option Addr) (ls : List (List CellD)) : Prop := ∀ j (h : j < ls.length), ∃ b o, A = some ⟨b, o, none⟩ ∧ SlAt w b (o + j) ls[j]
theorem SlAt.below {w W : World} {b o : Nat} {l : List CellD} (h : SlAt w b o l) (hB : Below w.heap.size w W) : SlAt W b o l := by
  obtain ⟨A, c, h0, h1, h2⟩ := h
  exact ⟨A, c, cell_below hB h0, h1, h2.below hB⟩
theorem Reads2.below {w W : World} {A : Option Addr} {ls : List (List CellD)} (h : Reads2 w A ls) (hB : Below w.heap.size w W) : Reads2 W A ls := fun j hj => by
  obtain ⟨b, o, e, hc⟩ := h j hj
  exact ⟨b, o, e, hc.below hB⟩
theorem Reads2.drewN {w : World} {A : Option Addr} {ls : List (List CellD)} (h : Reads2 w A ls) (n : Nat) : Reads2 (w.drewN n) A ls := h
theorem Reads2.nil (w : World) (A : Option Addr) : Reads2 w A [] := fun j hj => absurd hj (Nat.not_lt_zero j)
theorem row_form {w : World} {base n c : Nat} {e : TypeId} {size : Nat} {A : Option Addr} {xs : List Value} (h : w.ownsRow base e size (.slice A n c) n xs) (hn : 0 < n) : ∃ g, A = some ⟨g, 0, none⟩ ∧ base ≤ g ∧ g < w.heap.size := by
  rcases h.2 with ⟨_, h0⟩ | ⟨g, cap, cur, hv, hb, hh, _⟩
  · omega
  · obtain ⟨rfl, rfl⟩ : A = some ⟨g, 0, none⟩ ∧ c = cap := by simpa using hv
    exact ⟨g, rfl, hb, lt_of_block hh⟩
/-- Two rows whose element types differ share no block. -/
theorem rows_ne {w : World} {b b' : Nat} {e e' : TypeId} {s s' n n' : Nat} {v v' : Value} {xs xs' : List Value} (h : w.ownsRow b e s v n xs) (k : w.ownsRow b' e' s' v' n' xs') (hne : e ≠ e') : v.ownBlock = none ∨ v.ownBlock ≠ v'.ownBlock := by
  rcases h.2 with ⟨rfl, _⟩ | ⟨g, cap, cur, rfl, _, hh, _⟩
  · exact .inl rfl
  · rcases k.2 with ⟨rfl, _⟩ | ⟨g', cap', cur', rfl, _, kk, _⟩
    · exact .inr (by simp [Value.ownBlock])
    · refine .inr fun e1 => ?_
      have : g = g' := by simpa [Value.ownBlock] using e1
      subst this
      rw [hh] at kk
      injection kk with kk
      injection kk with _ kk
      exact hne kk
theorem sl_info : (Tryd.prog.info? 22).map (fun i => (i.zero, i.size, i.bytes)) = some (some (.slice none 0 0), 1, 24) := by kernel_rfl
/-- Slices that a row holds, each a term of the call's own with a property. -/
def Each (P : Option Addr → Nat → List CellD → Prop) (vs : List Value) (ls : List (List CellD)) : Prop :=
  vs.length = ls.length ∧ ∀ j (h : j < ls.length), ∃ A c, vs[j]? = some (.slice A ls[j].length c) ∧ P A c ls[j]
theorem Each.mono {P Q : Option Addr → Nat → List CellD → Prop} {vs : List Value} {ls : List (List CellD)} (h : Each P vs ls) (k : ∀ A c l, P A c l → Q A c l) : Each Q vs ls :=
  ⟨h.1, fun j hj => by
    obtain ⟨A, c, e, p⟩ := h.2 j hj
    exact ⟨A, c, e, k _ _ _ p⟩⟩
theorem Each.nil {P : Option Addr → Nat → List CellD → Prop} : Each P [] [] := ⟨rfl, fun j h => absurd h (Nat.not_lt_zero j)⟩
theorem Each.snoc {P : Option Addr → Nat → List CellD → Prop} {vs : List Value} {ls : List (List CellD)} {A : Option Addr} {c : Nat} {l : List CellD} (h : Each P vs ls) (p : P A c l) : Each P (vs ++ [.slice A l.length c]) (ls ++ [l]) := by
  refine ⟨by simp [h.1], fun j hj => ?_⟩
  by_cases e : j < ls.length
  · obtain ⟨A', c', e1, p1⟩ := h.2 j e
    refine ⟨A', c', ?_, ?_⟩
    · rw [List.getElem_append_left e, List.getElem?_append_left (by rw [h.1]; exact e)]; exact e1
    · rw [List.getElem_append_left e]; exact p1
  · have : j = ls.length := by simp at hj; omega
    subst this
    refine ⟨A, c, ?_, ?_⟩
    · rw [List.getElem?_append_right (by rw [h.1]; exact Nat.le_refl _)]; simp [h.1]
    · simpa using p
theorem Each.one {P : Option Addr → Nat → List CellD → Prop} {vs : List Value} {ls : List (List CellD)} (h : Each P vs ls) : ∀ u ∈ vs, u.oneCell' = true := by
  intro u hu
  obtain ⟨j, hj, rfl⟩ := List.mem_iff_getElem.1 hu
  obtain ⟨A, c, e, _⟩ := h.2 j (by rw [← h.1]; exact hj)
  rw [List.getElem?_eq_getElem hj] at e
  injection e with e
  rw [e]; rfl
theorem slice_one (A : Option Addr) (n c : Nat) : ∀ u ∈ [Value.slice A n c], u.oneCell' = true := by simp [Value.oneCell']
theorem row_cell1 {w : World} {base n c g : Nat} {e : TypeId} {xs : List Value} (h : w.ownsRow base e 1 (.slice (some ⟨g, 0, none⟩) n c) n xs) {j : Nat} {u : Value} (hu : xs[j]? = some u) : w.cell? ⟨g, j, none⟩ = some u := by
  have hj : j < xs.length := (List.getElem?_eq_some_iff.1 hu).1
  rw [h.cellAt j (by rw [← h.1]; exact hj)]; exact hu
/-- A row whose slices read as terms reads as those. -/
theorem Reads2.of_row {w : World} {base n c : Nat} {A : Option Addr} {e : TypeId} {vs rest : List Value} {ls : List (List CellD)} {P : Option Addr → Nat → List CellD → Prop} (h : w.ownsRow base e 1 (.slice A n c) n (vs ++ rest)) (hE : Each P vs ls)
    (hP : ∀ A c l, P A c l → l.length ≤ c ∧ Reads w A l) : Reads2 w A ls := fun j hj => by
  obtain ⟨Aj, cj, e1, p⟩ := hE.2 j hj
  have hv : j < vs.length := by rw [hE.1]; exact hj
  have hn : 0 < n := by have := h.1; simp at this; omega
  obtain ⟨g, rfl, _, _⟩ := row_form h hn
  refine ⟨g, 0, rfl, Aj, cj, ?_, (hP _ _ _ p).1, (hP _ _ _ p).2⟩
  rw [Nat.zero_add]
  exact row_cell1 h (by rw [List.getElem?_append_left hv]; exact e1)
set_option maxRecDepth 100000 in
set_option maxHeartbeats 2000000 in
theorem sameAll_any (n : Nat) (ls : List (List CellD)) (hn : ls.length = n) (A B : Option Addr) (c1 c2 : Nat) (w : World) (hx : Reads2 w A ls) (hy : Reads2 w B ls) (hf : ∀ l ∈ ls, l.length ≤ 1000000000000000) (hl : n ≤ 1000000000000000) :
    Calls Tryd.prog 75 #[.slice A n c1, .slice B n c2] w fun e w' => e = .returned (.bool true) ∧ Below w.heap.size w w' := by
  subst hn
  have hb : ((ls.length : Int) != (ls.length : Int)) = false := by simp
  have HX := Lib.hid hx
  have HY := Lib.hid hy
  have HF := Lib.hid hf
  clear hx hy hf
  go_enter Tryd.func75, Tryd.ntmps75
  go_wp2_with fail
  go_loopw [5] (fun i wr => ∃ j : Nat, j ≤ ls.length ∧ i = .int .i64 j ∧ Below w.heap.size w wr) (fun i wr => ls.length - (intOf i).toNat)
  case atStart => exact ⟨0, Nat.zero_le _, rfl, Below.refl _ _⟩
  case round =>
    obtain ⟨j, hj, rfl, hB⟩ := hrel
    by_cases hlt : j < ls.length
    · obtain ⟨g, o1, hA, A1, k1, p0, p1, p2⟩ := HX.out j hlt
      obtain ⟨b, o2, hBa, A2, k2, q0, q1, q2⟩ := HY.out j hlt
      subst hA hBa
      have p0' := cell_below hB p0
      have q0' := cell_below hB q0
      have R1 := Lib.hid (p2.below hB.drew)
      have R2 := Lib.hid (q2.below hB.drew)
      have hfj := HF.out _ (List.getElem_mem hlt)
      have hi1 : (j : Int) < (ls.length : Int) := by omega
      have hi0 : (0 : Int) ≤ (j : Int) := Int.natCast_nonneg _
      generalize ls[j] = l at *
      clear p0 q0 p2 q2
      go_wp2_with fail
      go_region_held3 (fun w' => w'.cell? ⟨g, o1 + j, none⟩ = some (.slice A1 l.length k1) ∧ w'.cell? ⟨b, o2 + j, none⟩ = some (.slice A2 l.length k2))
        (first
          | exact ⟨cell_below hbc p0', cell_below hbc q0'⟩
          | go_keep)
        ((go_at_call 20; refine (rsame_any A1 A2 k1 k2 l l _ R1.out R2.out hfj hfj).mono ?_; rintro e wc ⟨rfl, hbc⟩; rw [show decide (l = l) = true by simp]))
      have hB2 := below_then hB.drew hbc
      go_wp2
      go_roundw
      case rel => exact ⟨j + 1, by omega, by go_num, hB2⟩
      case measure => simp [intOf]; omega
    · go_wp2
      go_ret
      exact ⟨rfl, hB⟩
/-- What words tell, those that cannot be told as none. -/
def TermsIs (L : List ObjA) : List Int → List (List CellD) → Prop
  | [], ts => ts = []
  | x :: l, ts => ∃ t er r, ts = t :: r ∧ GetAns L x t er ∧ TermsIs L l r
theorem terms_ex {L : List ObjA} (hw : WfA L) : ∀ l : List Int, ∃ ts, TermsIs L l ts
  | [] => ⟨[], rfl⟩
  | x :: l => by
    obtain ⟨t, er, h⟩ := get_ans hw x
    obtain ⟨r, hr⟩ := terms_ex hw l
    exact ⟨t :: r, t, er, r, rfl, h, hr⟩
theorem TermsIs.len {L : List ObjA} : ∀ {l : List Int} {ts : List (List CellD)}, TermsIs L l ts → ts.length = l.length
  | [], ts, h => by
    obtain rfl : ts = [] := h
    rfl
  | x :: l, _, ⟨t, er, r, e, _, h⟩ => by rw [e, List.length_cons, List.length_cons, h.len]
theorem TermsIs.at {L : List ObjA} : ∀ {l : List Int} {ts : List (List CellD)} (_ : TermsIs L l ts) (j : Nat) (hj : j < l.length) (hj' : j < ts.length), ∃ er, GetAns L l[j] ts[j] er
  | [], _, _, j, hj, _ => absurd hj (Nat.not_lt_zero j)
  | x :: l, _, ⟨t, er, r, e, h, hr⟩, j, hj, hj' => by
    subst e
    cases j with
    | zero => exact ⟨er, h⟩
    | succ j => exact hr.at j (by simpa using hj) (by simpa using hj')
theorem GetAns.ext {L L' : List ObjA} {x : Int} {t : List CellD} {er : Int} (h : GetAns L x t er) (hf : (findA L x).isSome = true) (e : Ext L L') : GetAns L' x t er := by
  rcases h with ⟨h1, _, _⟩ | ⟨u, hu, h2, h3⟩
  · rw [h1] at hf; cases hf
  · exact .inr ⟨u, hu.ext e, h2, h3⟩
theorem TermsIs.ext {L L' : List ObjA} (e : Ext L L') : ∀ {l : List Int} {ts : List (List CellD)}, TermsIs L l ts → (∀ x ∈ l, FindOk L x) → TermsIs L' l ts
  | [], _, h, _ => h
  | x :: l, _, ⟨t, er, r, e1, h, hr⟩, hx => ⟨t, er, r, e1, h.ext (hx x (by simp)).1 e, hr.ext e (fun y hy => hx y (by simp [hy]))⟩
theorem TermsIs.small {L : List ObjA} : ∀ {l : List Int} {ts : List (List CellD)}, TermsIs L l ts → ∀ t ∈ ts, t.length ≤ 1024
  | [], _, h, t, ht => by rw [show _ = [] from h] at ht; cases ht
  | x :: l, _, ⟨t0, er, r, e, h, hr⟩, t, ht => by
    subst e
    rcases List.mem_cons.1 ht with rfl | ht
    · exact h.facts.2.2.2.2
    · exact hr.small t ht
def CellRow (W : World) (base : Nat) (A : Option Addr) (c : Nat) (l : List CellD) : Prop := W.ownsRow base 40 3 (.slice A l.length c) l.length (encs l)
/-- A row of rows of cells. -/
def TermsAt (W : World) (base : Nat) (v : Value) (ts : List (List CellD)) : Prop := ∃ vs, W.ownsRow base 22 1 v ts.length vs ∧ Each (CellRow W base) vs ts
theorem TermsAt.below {w W : World} {base : Nat} {v : Value} {ts : List (List CellD)} (h : TermsAt w base v ts) (hB : Below w.heap.size w W) : TermsAt W base v ts := by
  obtain ⟨vs, h1, h2⟩ := h
  exact ⟨vs, row_below h1 hB, h2.mono fun A c l k => row_below k hB⟩
theorem TermsAt.fr {w W : World} {base : Nat} {v : Value} {ts : List (List CellD)} {O : Nat → Prop} (h : TermsAt w base v ts) (hf : Fr O w W) (hO : ∀ k, O k → k < base) : TermsAt W base v ts := by
  obtain ⟨vs, h1, h2⟩ := h
  exact ⟨vs, row_fr h1 hf (fun k hk ho => by have := row_base h1 k hk; have := hO k ho; omega), h2.mono fun A c l k => row_fr k hf (fun b hb ho => by have := row_base k b hb; have := hO b ho; omega)⟩
theorem TermsAt.reads {W : World} {base : Nat} {A : Option Addr} {c : Nat} {ts : List (List CellD)} (h : TermsAt W base (.slice A ts.length c) ts) : Reads2 W A ts := by
  obtain ⟨vs, h1, h2⟩ := h
  exact Reads2.of_row (rest := []) (by simpa using h1) h2 (fun A c l k => ⟨row_cap k, Reads.of_row k⟩)
theorem TermsAt.add {w wa W : World} {base : Nat} {v v' : Value} {ts : List (List CellD)} {t : List CellD} {A : Option Addr} {c : Nat} {vs : List Value} (h1 : w.ownsRow base 22 1 v ts.length vs) (h2 : Each (CellRow w base) vs ts) (hB : Below w.heap.size w wa) (ht : CellRow wa base A c t) (hg : wa.grownBy W v.ownBlock)
    (hrow : W.ownsRow base 22 1 v' (ts.length + 1) (vs ++ [.slice A t.length c])) : TermsAt W base v' (ts ++ [t]) := by
  have hv := row_below h1 hB
  have keep : ∀ A c l, CellRow wa base A c l → CellRow W base A c l := fun A c l k => World.ownsRow.kept k hg (rows_ne k hv (by decide))
  refine ⟨vs ++ [.slice A t.length c], by rw [List.length_append, List.length_singleton]; exact hrow, ((h2.mono fun A c l k => keep A c l (row_below k hB)).snoc (keep _ _ _ ht))⟩
set_option maxHeartbeats 2000000 in
theorem terms_any (w : World) (O : Nat → Prop) (ba room : Nat) (L : List ObjA) (l : List Int) (ts : List (List CellD)) (A : Option Addr) (cap : Nat) (hA : ArAt w O ba room L) (hr : WReads w A l) (hx : ∀ x ∈ l, FindOk L x) (hl : l.length ≤ 1000000) (ht : TermsIs L l ts) :
    Calls Tryd.prog 74 #[.pointer (some ⟨ba, 0, none⟩), .slice A l.length cap] w fun e w' => ∃ A' c', e = .returned (.slice A' ts.length c') ∧ TermsAt w' w.heap.size (.slice A' ts.length c') ts ∧ Below w.heap.size w w' := by
  have htl := ht.len
  have HA := Lib.hid hA
  have HR := Lib.hid hr
  have HX := Lib.hid hx
  have HT := Lib.hid ht
  have HTL := Lib.hid htl
  obtain ⟨i0, hi, hz0, hz1, hz2⟩ := info_parts sl_info
  clear hA hr hx ht htl
  go_enter Tryd.func74, Tryd.ntmps74
  go_wp2_with fail
  go_loopw [5, 12] (fun v i wr => ∃ j : Nat, j ≤ l.length ∧ i = .int .i64 (j : Int) ∧ Hid (TermsAt wr w.heap.size v (ts.take j)) ∧ Hid (Below w.heap.size w wr)) (fun v i wr => l.length - (intOf i).toNat)
  case atStart => exact ⟨0, Nat.zero_le _, rfl, Lib.hid ⟨[], row_nil _ _ _ _, Each.nil⟩, Lib.hid (Below.refl _ _)⟩
  case round =>
    obtain ⟨j, hj, rfl, hS, hB⟩ := hrel
    have hlen : (ts.take j).length = j := by rw [List.length_take, HTL.out]; omega
    have hszr := hB.out.size
    by_cases hlt : j < l.length
    · obtain ⟨g, o, rfl, q0⟩ := (HR.out.below hB.out) j hlt
      have hxo := HX.out l[j] (List.getElem_mem hlt)
      have hjt : j < ts.length := by rw [HTL.out]; exact hlt
      obtain ⟨er, ha⟩ := HT.out.at j hlt hjt
      have HTK := Lib.hid (List.take_succ_eq_append_getElem hjt)
      obtain ⟨x, hxe⟩ : ∃ x, l[j] = x := ⟨_, rfl⟩
      obtain ⟨t, hte⟩ : ∃ t, ts[j] = t := ⟨_, rfl⟩
      rw [hxe] at q0 hxo ha
      rw [hte] at ha HTK
      have hg := getv_any wr O ba room L x t er hxo.2.1 hxo.2.2 (HA.out.below hB.out) ha
      have hj1 : (j : Int) < (l.length : Int) := by omega
      have hj0 : (0 : Int) ≤ (j : Int) := Int.natCast_nonneg _
      have hbl : decide ((j : Int) < (l.length : Int)) = true := decide_eq_true hj1
      obtain ⟨vs, h1, h2⟩ := hS.out
      obtain ⟨Av, cv, hv⟩ := row_slice h1
      rw [hlen] at hv h1
      subst hv
      have H1 := Lib.hid h1
      have H2 := Lib.hid h2
      have HL := Lib.hid hlen
      clear hxe hte ha h1 h2 hlen hS
      go_wp2_with fail
      refine hg.mono ?_
      rintro e w2 ⟨⟨A2, c2, rfl, hrow2⟩, hb2⟩
      have HR2 := Lib.hid (row_mono hrow2 hszr)
      have H12 := Lib.hid (row_below H1.out hb2)
      have HB2 := Lib.hid hb2
      have hs2 := hb2.size
      clear hg hrow2 hb2 q0
      go_wp2_with (at_builtin
                   refine wpList_append_own_at _ rfl (.tmp 22) (.tmp 24) _ rfl w.heap.size 22 i0 (.slice none 0 0) 1 24 Tryd.underlying122 hi hz0 hz1 hz2 rfl (by decide) (.slice Av j cv) j vs rfl (H12.out.alloc _) ⟨w2.heap.size, 0, none⟩ 1 1 [.slice A2 t.length c2] rfl rfl (cell_one_new _ _ _) (slice_one _ _ _) (by unfold maxLen; omega) (by omega) (by rw [World.size_alloc]; omega) ?_
                   intro v5 w5 hown5 hgrow5 hnil5 hat5)
      have HS5 := Lib.hid (show TermsAt w5 w.heap.size v5 (ts.take (j + 1)) by
        rw [HTK.out]
        exact TermsAt.add (by rw [HL.out]; exact H1.out) H2.out (below_alloc' HB2.out _) (HR2.out.alloc _) hgrow5 (by rw [HL.out]; exact hown5))
      have HB5 := Lib.hid (below_grown (below_alloc' (below_then hB.out HB2.out) _) hgrow5 (row_base H1.out))
      go_roundw
      case rel => exact ⟨j + 1, hlt, by go_num, HS5, HB5⟩
      case measure => simp [intOf]; omega
    · have hjl : j = l.length := by omega
      have hst := hS.out
      rw [List.take_of_length_le (by rw [HTL.out]; omega)] at hst
      obtain ⟨vs, h1, h2⟩ := hst
      obtain ⟨Av, cv, hv⟩ := row_slice h1
      subst hv
      have HF := Lib.hid (show TermsAt wr w.heap.size (.slice Av ts.length cv) ts from ⟨vs, h1, h2⟩)
      have hbl : decide ((j : Int) < (l.length : Int)) = false := decide_eq_false (by omega)
      clear hS h1 h2 hjl
      go_wp2
      go_ret
      exact ⟨Av, cv, rfl, HF.out, hB.out⟩
end Go.Proofs.YtemamhjcboelcaaDoor.Tm
