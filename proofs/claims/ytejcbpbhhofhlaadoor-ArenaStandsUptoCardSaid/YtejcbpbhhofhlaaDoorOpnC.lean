/- A script of calls that came in, of bounded bulk. -/
import Derived.Test.YtejcbpbhhofhlaaDoorOpnB
import Derived.Test.YtejcbpbhhofhlaaDoorRgP
namespace Go.Proofs.YtejcbpbhhofhlaaDoor.Tm
open Go.ChangeShapes Go.WideShapes Go.Deep Go.RowKit Go.Joins
set_option linter.unusedVariables false
set_option linter.unusedSimpArgs false

section
variable {H : Type} {enc : TypeId × Value → H} {P : Program} {w : World} {base : Nat} {spare : Nat → Bool} {held : Bool}
theorem bulk_one (d : DataW H) : 1 ≤ Rows.uptoBulk d := by
  cases d with
  | lit l => cases l <;> simp [Rows.uptoBulk]
  | nil => simp [Rows.uptoBulk]
  | ptr d => simp [Rows.uptoBulk]
  | slice elems spare => simp [Rows.uptoBulk]
  | agg parts => simp [Rows.uptoBulk]
  | iface t d => simp [Rows.uptoBulk]
  | map entries => simp [Rows.uptoBulk]
  | held h => simp [Rows.uptoBulk]
theorem bulk_part {d : DataW H} : ∀ {l : List (DataW H)}, d ∈ l → Rows.uptoBulk d ≤ Rows.uptoBulkAll l
  | x :: r, h => by
    simp only [Rows.uptoBulkAll]
    rcases List.mem_cons.1 h with rfl | h
    · omega
    · have := bulk_part h; omega
  | [], h => by cases h
theorem bulk_len : ∀ l : List (DataW H), l.length ≤ Rows.uptoBulkAll l
  | [] => by simp [Rows.uptoBulkAll]
  | x :: r => by
    have h1 := bulk_one x
    have h2 := bulk_len r
    simp only [Rows.uptoBulkAll, List.length_cons]
    omega
theorem bulk_slice {d : DataW H} {len : Nat} (h : d = .nil ∧ len = 0 ∨ ∃ es sp : List (DataW H), d = .slice es sp ∧ len ≤ es.length + sp.length) : len ≤ Rows.uptoBulk d := by
  rcases h with ⟨_, rfl⟩ | ⟨es, sp, rfl, hl⟩
  · omega
  · have h1 := bulk_len es
    have h2 := bulk_len sp
    simp only [Rows.uptoBulk]
    omega
theorem bulk_many : ∀ l : List (DataW H), (∀ d ∈ l, 4 ≤ Rows.uptoBulk d) → l.length * 4 ≤ Rows.uptoBulkAll l
  | [], _ => by simp [Rows.uptoBulkAll]
  | x :: r, h => by
    have h1 := h x (by simp)
    have h2 := bulk_many r (fun d hd => h d (by simp [hd]))
    simp only [Rows.uptoBulkAll, List.length_cons]
    omega
theorem open_picks {t e : TypeId} {f0 f1 f2 : Field} {a : Option Addr} {len cap : Nat} {d : DataW H} {ps : List MemPlace}
    (ht : P.underlying t = some (.slice e)) (he : P.underlying e = some (.struct #[f0, f1, f2])) (hone : oneCellFields P #[f0, f1, f2] = true) (hC : P.cellsOf e = 3)
    (u0 : P.underlying f0.type = some .bool) (u1 : P.underlying f1.type = some (.int .i64)) (u2 : P.underlying f2.type = some (.int .u64))
    (h : DataW.Trod enc P w base spare held t (.slice a len cap) d ps) :
    ∃ l : List PickD, len = l.length ∧ l.length ≤ cap ∧ PReads w a l ∧ (∀ p ∈ l, p.ok) ∧ len * 4 ≤ Rows.uptoBulk d := by
  obtain ⟨fuel, hf⟩ := h
  rcases open_slice ht hf with ⟨hcs, hx⟩ | ⟨x, l, c, m, n, D, Pl, hcs, hb, hl, hm, hmm, hx, hi⟩
  · simp [Value.cells] at hcs
    obtain ⟨rfl, rfl, rfl⟩ := hcs
    exact ⟨[], rfl, by simp, fun j hj => absurd hj (Nat.not_lt_zero j), fun p hp => (by cases hp), by simp⟩
  · simp [Value.cells] at hcs
    obtain ⟨rfl, rfl, rfl⟩ := hcs
    have hlm : len ≤ m := by rw [hmm]; split <;> omega
    have key : ∀ i, i < len → ∃ y : PickD, (w.cell? (x.add (i * 3)) = some (.bool y.raw) ∧ w.cell? ((x.add (i * 3)).add 1) = some (.int .i64 y.n) ∧ w.cell? ((x.add (i * 3)).add 2) = some (.int .u64 y.x)) ∧ y.ok ∧ 4 ≤ Rows.uptoBulk (D i) := by
      intro i him
      obtain ⟨cs', hc, ht'⟩ := hi i (by omega)
      rw [hC] at hc
      obtain ⟨_, hcl, hat⟩ := World.cells?_some hc
      obtain ⟨ys, n', hn', hy, hlen, hyl, hfs⟩ := DataW.trod_struct he ht'
      obtain ⟨o0, k0⟩ := hone_of hone 0 f0 rfl
      obtain ⟨o1, k1⟩ := hone_of hone 1 f1 rfl
      obtain ⟨o2, k2⟩ := hone_of hone 2 f2 rfl
      match cs', hcl with
      | [c0, c1, c2], _ =>
        match ys, hyl with
        | [y0, y1, y2], _ =>
          have g0 := hfs 0 f0 rfl
          have g1 := hfs 1 f1 rfl
          have g2 := hfs 2 f2 rfl
          rw [o0, k0] at g0
          rw [o1, k1] at g1
          rw [o2, k2] at g2
          obtain ⟨z0, e0, _⟩ := DataW.trod_bool u0 g0
          obtain ⟨z1, e1, _, hz1⟩ := DataW.trod_int u1 g1
          obtain ⟨z2, e2, _, hz2⟩ := DataW.trod_int u2 g2
          simp at e0 e1 e2
          subst e0 e1 e2
          have hz1' : -9223372036854775808 ≤ z1 ∧ z1 < 9223372036854775808 := by
            simp [Lit.wf, IntKind.min, IntKind.max] at hz1
            simp [IntKind.signed, IntKind.bits] at hz1
            omega
          have hz2' : 0 ≤ z2 ∧ z2 < 18446744073709551616 := by
            simp [Lit.wf, IntKind.min, IntKind.max] at hz2
            simp [IntKind.signed, IntKind.bits] at hz2
            omega
          refine ⟨⟨z0, z1, z2⟩, ⟨?_, ?_, ?_⟩, ⟨hz1', hz2'⟩, by
            have hDe : D i = .agg [y0.1, y1.1, y2.1] := congrArg Prod.fst hy
            have := bulk_one y0.1
            have := bulk_one y1.1
            have := bulk_one y2.1
            rw [hDe]
            simp only [Rows.uptoBulk, Rows.uptoBulkAll]
            omega⟩
          · have := hat 0 (by omega)
            simpa [Addr.add] using this
          · exact hat 1 (by omega)
          · exact hat 2 (by omega)
    obtain ⟨l, hll, hp⟩ := list_of len key
    refine ⟨l, hll.symm, by omega, fun j hj => ?_, fun p hp' => by
      obtain ⟨j, hj, rfl⟩ := List.mem_iff_getElem.1 hp'
      exact (hp j hj).2.1, by
      have hd : d = .slice ((List.range len).map D) ((List.range (m - len)).map fun j => D (len + j)) := congrArg Prod.fst hx
      have hb := bulk_many ((List.range len).map D) (fun d hd => by
        obtain ⟨i, hi, rfl⟩ := List.mem_map.1 hd
        exact (hp i (by rw [hll]; exact List.mem_range.1 hi)).2.2)
      rw [List.length_map, List.length_range] at hb
      rw [hd]
      simp only [Rows.uptoBulk]
      omega⟩
    obtain ⟨⟨p0, p1, p2⟩, _⟩ := hp j hj
    obtain ⟨⟨q0, _, _⟩, _⟩ := hp 0 (by omega)
    have hsp : x.spot = none := by
      have := World.cell?_spot q0
      simpa [Addr.add] using this
    obtain ⟨b, o, sp⟩ := x
    simp only at hsp
    subst hsp
    have ea : ∀ k, (⟨b, o, none⟩ : Addr).add k = ⟨b, o + k, none⟩ := fun k => by unfold Addr.add; split <;> simp_all
    have eb : ∀ k q, (⟨b, q, none⟩ : Addr).add k = ⟨b, q + k, none⟩ := fun k q => by unfold Addr.add; split <;> simp_all
    refine ⟨b, o, rfl, ?_, ?_, ?_⟩
    · rw [ea] at p0; exact p0
    · rw [ea, eb] at p1; exact p1
    · rw [ea, eb] at p2; exact p2
theorem open_ops {t e tc ec tp ep : TypeId} {f0 f1 f2 f3 a0 a1 a2 b0 b1 b2 : Field} {a : Option Addr} {len cap : Nat} {d : DataW H} {ps : List MemPlace}
    (ht : P.underlying t = some (.slice e)) (he : P.underlying e = some (.struct #[f0, f1, f2, f3])) (hone : oneCellFields P #[f0, f1, f2, f3] = true) (hC : P.cellsOf e = 4)
    (u0 : P.underlying f0.type = some (.int .i64)) (u1 : f1.type = tc) (u2 : f2.type = tp) (u3 : P.underlying f3.type = some (.int .i64))
    (hc : P.underlying tc = some (.slice ec)) (hec : P.underlying ec = some (.struct #[a0, a1, a2])) (hcone : oneCellFields P #[a0, a1, a2] = true) (hcC : P.cellsOf ec = 3)
    (v0 : P.underlying a0.type = some (.int .i64)) (v1 : P.underlying a1.type = some (.int .i64)) (v2 : P.underlying a2.type = some .string)
    (hp : P.underlying tp = some (.slice ep)) (hep : P.underlying ep = some (.struct #[b0, b1, b2])) (hpone : oneCellFields P #[b0, b1, b2] = true) (hpC : P.cellsOf ep = 3)
    (x0 : P.underlying b0.type = some .bool) (x1 : P.underlying b1.type = some (.int .i64)) (x2 : P.underlying b2.type = some (.int .u64))
    (h : DataW.Trod enc P w base spare held t (.slice a len cap) d ps) (hbk : Rows.uptoBulk d ≤ 1048576) :
    ∃ ops : List OpD, len = ops.length ∧ ops.length ≤ cap ∧ ScriptAt w a ops ∧ (∀ op ∈ ops, CallOk op) ∧ ops.length ≤ 1048576 := by
  subst u1 u2
  obtain ⟨fuel, hf⟩ := h
  rcases open_slice ht hf with ⟨hcs, hx⟩ | ⟨x, l, c, m, n, D, Pl, hcs, hb, hl, hm, hmm, hx, hi⟩
  · simp [Value.cells] at hcs
    obtain ⟨rfl, rfl, rfl⟩ := hcs
    exact ⟨[], rfl, by simp, fun j hj => absurd hj (Nat.not_lt_zero j), fun p hp => (by cases hp), by simp⟩
  · simp [Value.cells] at hcs
    obtain ⟨rfl, rfl, rfl⟩ := hcs
    have hd : d = .slice ((List.range len).map D) ((List.range (m - len)).map fun j => D (len + j)) := congrArg Prod.fst hx
    have hlm : len ≤ m := by rw [hmm]; split <;> omega
    have hlb : len ≤ 1048576 := Nat.le_trans (bulk_slice (.inr ⟨_, _, hd, by rw [List.length_map, List.length_map, List.length_range, List.length_range]; omega⟩)) hbk
    have key : ∀ i, i < len → ∃ y : OpD, (∃ AT AP cT cP, w.cell? (x.add (i * 4)) = some (.int .i64 y.kind) ∧ w.cell? ((x.add (i * 4)).add 1) = some (.slice AT y.T.length cT) ∧ w.cell? ((x.add (i * 4)).add 2) = some (.slice AP y.ps.length cP) ∧ w.cell? ((x.add (i * 4)).add 3) = some (.int .i64 y.N) ∧ Reads w AT y.T ∧ PReads w AP y.ps ∧ y.T.length ≤ cT ∧ y.ps.length ≤ cP) ∧ CallOk y := by
      intro i him
      obtain ⟨cs', hcc, ht'⟩ := hi i (by omega)
      rw [hC] at hcc
      obtain ⟨_, hcl, hat⟩ := World.cells?_some hcc
      obtain ⟨ys, n', hn', hy, hlen, hyl, hfs⟩ := DataW.trod_struct he ht'
      obtain ⟨o0, k0⟩ := hone_of hone 0 f0 rfl
      obtain ⟨o1, k1⟩ := hone_of hone 1 f1 rfl
      obtain ⟨o2, k2⟩ := hone_of hone 2 f2 rfl
      obtain ⟨o3, k3⟩ := hone_of hone 3 f3 rfl
      have hDi : Rows.uptoBulk (D i) ≤ 1048576 := by
        have h1 : Rows.uptoBulk (D i) ≤ Rows.uptoBulkAll ((List.range len).map D) := bulk_part (List.mem_map.2 ⟨i, List.mem_range.2 him, rfl⟩)
        rw [hd] at hbk
        simp only [Rows.uptoBulk] at hbk
        omega
      match cs', hcl with
      | [c0, c1, c2, c3], _ =>
        match ys, hyl with
        | [y0, y1, y2, y3], _ =>
          have g0 := hfs 0 f0 rfl
          have g1 := hfs 1 f1 rfl
          have g2 := hfs 2 f2 rfl
          have g3 := hfs 3 f3 rfl
          rw [o0, k0] at g0
          rw [o1, k1] at g1
          rw [o2, k2] at g2
          rw [o3, k3] at g3
          obtain ⟨z0, e0, _, _⟩ := DataW.trod_int u0 g0
          obtain ⟨z3, e3, _, _⟩ := DataW.trod_int u3 g3
          simp at e0 e3
          subst e0 e3
          have hDe : D i = .agg [y0.1, y1.1, y2.1, y3.1] := congrArg Prod.fst hy
          have hy1 : Rows.uptoBulk y1.1 ≤ 1048576 := by
            rw [hDe] at hDi
            simp only [Rows.uptoBulk, Rows.uptoBulkAll] at hDi
            omega
          have hy2 : Rows.uptoBulk y2.1 + 1 ≤ 1048576 := by
            rw [hDe] at hDi
            simp only [Rows.uptoBulk, Rows.uptoBulkAll] at hDi
            omega
          have sl : ∀ {ty ez : TypeId} {v : Value} {y : DataW H × List MemPlace}, P.underlying ty = some (.slice ez) → DataW.trod enc P w base spare held n' ty [v] = some y → ∃ A l k, v = .slice A l k := by
            intro ty ez v y hu hg
            rcases open_slice hu hg with ⟨hv', _⟩ | ⟨x', l', c', _, _, _, _, hv', _⟩
            · exact ⟨none, 0, 0, by simpa using hv'⟩
            · exact ⟨some x', l', c', by simpa using hv'⟩
          have g1' : DataW.trod enc P w base spare held n' f1.type [c1] = some y1 := by simpa using g1
          have g2' : DataW.trod enc P w base spare held n' f2.type [c2] = some y2 := by simpa using g2
          obtain ⟨AT, lT, cT, rfl⟩ := sl hc g1'
          obtain ⟨AP, lP, cP, rfl⟩ := sl hp g2'
          obtain ⟨T, t1, t2, t3, t4, t5⟩ := open_acells (d := y1.1) (ps := y1.2) hc hec hcone hcC v0 v1 v2 ⟨n', g1'⟩
          obtain ⟨Q, q1, q2, q3, q4, q5⟩ := open_picks (d := y2.1) (ps := y2.2) hp hep hpone hpC x0 x1 x2 ⟨n', g2'⟩
          subst t1 q1
          refine ⟨⟨z0, T, Q, z3⟩, ⟨AT, AP, cT, cP, ?_, hat 1 (by omega), hat 2 (by omega), hat 3 (by omega), t3, q3, t2, q2⟩, ⟨fun c hc => ?_, q4, Nat.le_trans (bulk_slice t5) hy1, ?_⟩⟩
          · have := hat 0 (by omega)
            simpa [Addr.add] using this
          · obtain ⟨j, hj, rfl⟩ := List.mem_iff_getElem.1 hc
            exact t4 j hj
          · show Q.length ≤ 1000000
            omega
    obtain ⟨ops, hll, hpp⟩ := list_of len key
    refine ⟨ops, hll.symm, by omega, fun j hj => ?_, fun op hop => by
      obtain ⟨j, hj, rfl⟩ := List.mem_iff_getElem.1 hop
      exact (hpp j hj).2, by omega⟩
    obtain ⟨⟨AT, AP, cT, cP, p0, p1, p2, p3, r1, r2, r3, r4⟩, _⟩ := hpp j hj
    obtain ⟨⟨_, _, _, _, q0, _⟩, _⟩ := hpp 0 (by omega)
    have hsp : x.spot = none := by
      have := World.cell?_spot q0
      simpa [Addr.add] using this
    obtain ⟨b, o, sp⟩ := x
    simp only at hsp
    subst hsp
    have ea : ∀ k, (⟨b, o, none⟩ : Addr).add k = ⟨b, o + k, none⟩ := fun k => by unfold Addr.add; split <;> simp_all
    have eb : ∀ k q, (⟨b, q, none⟩ : Addr).add k = ⟨b, q + k, none⟩ := fun k q => by unfold Addr.add; split <;> simp_all
    rw [ea] at p0
    rw [ea, eb] at p1 p2 p3
    exact ⟨b, o, AT, AP, cT, cP, rfl, ⟨p0, p1, p2, p3, r1, r2, r3, r4⟩⟩
theorem small_of {l : List (DataW H)} (h : Rows.uptoSmall H l = true) {d : DataW H} (hd : d ∈ l) : Rows.uptoBulk d ≤ 1048576 :=
  Nat.le_trans (bulk_part hd) (of_decide_eq_true h)
end
end Go.Proofs.YtejcbpbhhofhlaaDoor.Tm
