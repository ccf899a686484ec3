/- A slice of tests that came in: as plain data. -/
import Derived.Test.YtefpolgflimlgaaDoorOpen
import Derived.Test.YtefpolgflimlgaaDoorOpen2
import Derived.Test.YtefpolgflimlgaaDoorTests
namespace Go.Proofs.YtefpolgflimlgaaDoor.Tm
open Go.ChangeShapes Go.WideShapes Go.Deep Go.RowKit Go.Joins
set_option linter.unusedVariables false
set_option linter.unusedSimpArgs false

section
variable {H : Type} {enc : TypeId × Value → H} {P : Program} {w : World} {base : Nat} {spare : Nat → Bool} {held : Bool}
/-- Three cells of a struct like a cell's. -/
theorem open_arg3 {q : TypeId} {a0 a1 a2 : Field} {n : Nat} {c0 c1 c2 : Value} {y : DataW H × List MemPlace} (hq : P.underlying q = some (.struct #[a0, a1, a2])) (hone : oneCellFields P #[a0, a1, a2] = true)
    (u0 : P.underlying a0.type = some (.int .i64)) (u1 : P.underlying a1.type = some (.int .i64)) (u2 : P.underlying a2.type = some .string)
    (h : DataW.trod enc P w base spare held n q [c0, c1, c2] = some y) : ∃ x : CellD, c0 = .int .i64 x.kind ∧ c1 = .int .i64 x.n ∧ c2 = .string x.text ∧ x.text.size ≤ 9223372036854775807 := by
  obtain ⟨ys, n', hn', hy, hlen, hyl, hfs⟩ := DataW.trod_struct hq h
  obtain ⟨o0, k0⟩ := hone_of hone 0 a0 rfl
  obtain ⟨o1, k1⟩ := hone_of hone 1 a1 rfl
  obtain ⟨o2, k2⟩ := hone_of hone 2 a2 rfl
  match ys, hyl with
  | [y0, y1, y2], _ =>
    have g0 := hfs 0 a0 rfl
    have g1 := hfs 1 a1 rfl
    have g2 := hfs 2 a2 rfl
    rw [o0, k0] at g0
    rw [o1, k1] at g1
    rw [o2, k2] at g2
    obtain ⟨z0, e0, _, _⟩ := DataW.trod_int u0 g0
    obtain ⟨z1, e1, _, _⟩ := DataW.trod_int u1 g1
    obtain ⟨z2, e2, _, hz2⟩ := DataW.trod_string u2 g2
    simp at e0 e1 e2
    exact ⟨⟨z0, z1, z2⟩, e0, e1, e2, hz2⟩
theorem open_tests {t e q : TypeId} {f0 f1 f2 a0 a1 a2 : Field} {a : Option Addr} {len cap : Nat} {d : DataW H} {ps : List MemPlace}
    (ht : P.underlying t = some (.slice e)) (he : P.underlying e = some (.struct #[f0, f1, f2])) (hq : P.underlying q = some (.struct #[a0, a1, a2])) (hone : oneCellFields P #[a0, a1, a2] = true)
    (hC : P.cellsOf e = 7) (hB : P.bytesOf e = 72) (ho : (f0.offset, f1.offset, f2.offset) = (0, 1, 4)) (hc : (P.cellsOf f0.type, P.cellsOf f1.type, P.cellsOf f2.type) = (1, 3, 3)) (htq : (f1.type, f2.type) = (q, q))
    (v0 : P.underlying f0.type = some (.int .i64)) (u0 : P.underlying a0.type = some (.int .i64)) (u1 : P.underlying a1.type = some (.int .i64)) (u2 : P.underlying a2.type = some .string)
    (h : DataW.Trod enc P w base spare held t (.slice a len cap) d ps) (hw : ∀ n ∈ d.weights P t, n ≤ reachBytes) :
    ∃ g : List TestD, len = g.length ∧ g.length ≤ cap ∧ TReads w a g ∧ FineT g := by
  obtain ⟨fuel, hf⟩ := h
  simp only [Prod.mk.injEq] at ho hc htq
  rcases open_slice ht hf with ⟨hcs, hx⟩ | ⟨x, l, c, m, n, D, Pl, hcs, hb, hl, hm, hmm, hx, hi⟩
  · simp [Value.cells] at hcs
    obtain ⟨rfl, rfl, rfl⟩ := hcs
    exact ⟨[], rfl, by simp, TReads.nil _ _, ⟨by simp, fun j hj => absurd hj (Nat.not_lt_zero j)⟩⟩
  · simp [Value.cells] at hcs
    obtain ⟨rfl, rfl, rfl⟩ := hcs
    have hd : d = .slice ((List.range len).map D) ((List.range (m - len)).map fun j => D (len + j)) := congrArg Prod.fst hx
    have hlm : len ≤ m := by rw [hmm]; split <;> omega
    have key : ∀ i, i < len → ∃ y : TestD, (∀ k u, y.vals[k]? = some u → w.cell? ((x.add (i * 7)).add k) = some u) ∧ y.a.text.size ≤ 9223372036854775807 ∧ y.b.text.size ≤ 9223372036854775807 := by
      intro i him
      obtain ⟨cs', hcc, ht'⟩ := hi i (by omega)
      rw [hC] at hcc
      obtain ⟨_, hcl, hat⟩ := World.cells?_some hcc
      obtain ⟨ys, n', hn', hy, hlen, hyl, hfs⟩ := DataW.trod_struct he ht'
      match cs', hcl with
      | [c0, c1, c2, c3, c4, c5, c6], _ =>
        match ys, hyl with
        | [y0, y1, y2], _ =>
          have g0 := hfs 0 f0 rfl
          have g1 := hfs 1 f1 rfl
          have g2 := hfs 2 f2 rfl
          rw [ho.1, hc.1] at g0
          rw [ho.2.1, hc.2.1, htq.1] at g1
          rw [ho.2.2, hc.2.2, htq.2] at g2
          obtain ⟨z0, e0, _, _⟩ := DataW.trod_int v0 g0
          obtain ⟨xa, p0, p1, p2, p3⟩ := open_arg3 (c0 := c1) (c1 := c2) (c2 := c3) (y := y1) hq hone u0 u1 u2 g1
          obtain ⟨xb, r0, r1, r2, r3⟩ := open_arg3 (c0 := c4) (c1 := c5) (c2 := c6) (y := y2) hq hone u0 u1 u2 g2
          simp at e0
          subst e0 p0 p1 p2 r0 r1 r2
          refine ⟨⟨z0, xa, xb⟩, fun k u hk => ?_, p3, r3⟩
          have hk7 : k < 7 := (List.getElem?_eq_some_iff.1 hk).1
          exact (hat k hk7).trans (by simpa [TestD.vals, CellD.vals] using hk)
    obtain ⟨g, hll, hp⟩ := list_of len key
    refine ⟨g, hll.symm, by omega, fun j hj => ?_, ⟨?_, fun j hj => ⟨(hp j hj).2.1, (hp j hj).2.2⟩⟩⟩
    · obtain ⟨kv, _, _⟩ := hp j hj
      obtain ⟨z, _, _⟩ := hp 0 (by omega)
      have hsp : x.spot = none := by
        have := World.cell?_spot (z 0 _ rfl)
        simpa [Addr.add] using this
      obtain ⟨b, o, sp⟩ := x
      simp only at hsp
      subst hsp
      have ea : ∀ k r, ((⟨b, o, none⟩ : Addr).add k).add r = ⟨b, o + k + r, none⟩ := fun k r => by
        unfold Addr.add
        by_cases hk : k = 0 <;> by_cases hr : r = 0 <;> simp [hk, hr]
      have K : ∀ k u, (g[j]).vals[k]? = some u → w.cell? ⟨b, o + j * 7 + k, none⟩ = some u := fun k u hu => by rw [← ea]; exact kv k u hu
      exact ⟨b, o, rfl, ⟨K 0 _ rfl, K 1 _ rfl, K 2 _ rfl, K 3 _ rfl, K 4 _ rfl, K 5 _ rfl, K 6 _ rfl⟩⟩
    · have z := sized_len (len := len) ht hB hw (.inr ⟨_, _, hd, by rw [List.length_map, List.length_map, List.length_range, List.length_range]; omega⟩)
      rw [hll]; exact z
theorem open_test {r : Reach} {b0 : Nat} {e q : TypeId} {f0 f1 f2 a0 a1 a2 : Field} {v : Value} {d : DataW H} {p : List MemPlace}
    (he : P.underlying e = some (.struct #[f0, f1, f2])) (hq : P.underlying q = some (.struct #[a0, a1, a2])) (hone : oneCellFields P #[a0, a1, a2] = true)
    (hC : P.cellsOf e = 7) (ho : (f0.offset, f1.offset, f2.offset) = (0, 1, 4)) (hc : (P.cellsOf f0.type, P.cellsOf f1.type, P.cellsOf f2.type) = (1, 3, 3)) (htq : (f1.type, f2.type) = (q, q))
    (v0 : P.underlying f0.type = some (.int .i64)) (u0 : P.underlying a0.type = some (.int .i64)) (u1 : P.underlying a1.type = some (.int .i64)) (u2 : P.underlying a2.type = some .string)
    (hv : Value.okWide P w r b0 e v) (h : DataW.Trod enc P w base spare held e v d p) :
    ∃ x : TestD, v = .agg #[.int .i64 x.op, .int .i64 x.a.kind, .int .i64 x.a.n, .string x.a.text, .int .i64 x.b.kind, .int .i64 x.b.n, .string x.b.text] ∧ x.a.text.size ≤ 9223372036854775807 ∧ x.b.text.size ≤ 9223372036854775807 := by
  obtain ⟨cs, rfl, hsz⟩ := okWide_struct he hv
  obtain ⟨l⟩ := cs
  simp only [Prod.mk.injEq] at ho hc htq
  match l, hsz.trans hC with
  | [c0, c1, c2, c3, c4, c5, c6], _ =>
    obtain ⟨fuel, hf⟩ := h
    obtain ⟨ys, n', hn', hy, hlen, hyl, hfs⟩ := DataW.trod_struct he hf
    match ys, hyl with
    | [y0, y1, y2], _ =>
      have g0 := hfs 0 f0 rfl
      have g1 := hfs 1 f1 rfl
      have g2 := hfs 2 f2 rfl
      rw [ho.1, hc.1] at g0
      rw [ho.2.1, hc.2.1, htq.1] at g1
      rw [ho.2.2, hc.2.2, htq.2] at g2
      obtain ⟨z0, e0, _, _⟩ := DataW.trod_int v0 g0
      obtain ⟨xa, p0, p1, p2, p3⟩ := open_arg3 (c0 := c1) (c1 := c2) (c2 := c3) (y := y1) hq hone u0 u1 u2 g1
      obtain ⟨xb, r0, r1, r2, r3⟩ := open_arg3 (c0 := c4) (c1 := c5) (c2 := c6) (y := y2) hq hone u0 u1 u2 g2
      simp [Value.cells] at e0
      subst e0 p0 p1 p2 r0 r1 r2
      exact ⟨⟨z0, xa, xb⟩, rfl, p3, r3⟩
end
end Go.Proofs.YtefpolgflimlgaaDoor.Tm
