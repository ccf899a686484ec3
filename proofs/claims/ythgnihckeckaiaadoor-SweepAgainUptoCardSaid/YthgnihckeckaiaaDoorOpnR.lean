/- Layer 23: a slice of roots that came in. -/
import Derived.Test.YthgnihckeckaiaaDoorOpnE
import Derived.Test.YthgnihckeckaiaaDoorSwB
namespace Go.Proofs.YthgnihckeckaiaaDoor.Tm
open Go.ChangeShapes Go.WideShapes Go.Deep Go.RowKit Go.Joins
set_option linter.unusedVariables false
set_option linter.unusedSimpArgs false

section
variable {H : Type} {enc : TypeId × Value → H} {P : Program} {w : World} {base : Nat} {spare : Nat → Bool} {held : Bool}
theorem open_roots {t e : TypeId} {f0 f1 f2 : Field} {a : Option Addr} {len cap : Nat} {d : DataW H} {ps : List MemPlace}
    (ht : P.underlying t = some (.slice e)) (he : P.underlying e = some (.struct #[f0, f1, f2])) (hone : oneCellFields P #[f0, f1, f2] = true) (hC : P.cellsOf e = 3)
    (u0 : P.underlying f0.type = some .bool) (u1 : P.underlying f1.type = some (.int .i64)) (u2 : P.underlying f2.type = some (.int .u64))
    (h : DataW.Trod enc P w base spare held t (.slice a len cap) d ps) :
    ∃ l : List RootD, len = l.length ∧ l.length ≤ cap ∧ RtReads w a l ∧ (∀ j (hj : j < l.length), RootOk l[j]) ∧
      (d = .nil ∧ len = 0 ∨ ∃ es sp : List (DataW H), d = .slice es sp ∧ len ≤ es.length + sp.length) := by
  obtain ⟨fuel, hf⟩ := h
  rcases open_slice ht hf with ⟨hcs, hx⟩ | ⟨x, l, c, m, n, D, Pl, hcs, hb, hl, hm, hmm, hx, hi⟩
  · simp [Value.cells] at hcs
    obtain ⟨rfl, rfl, rfl⟩ := hcs
    exact ⟨[], rfl, by simp, (fun j hj => absurd hj (Nat.not_lt_zero j)), fun j hj => absurd hj (Nat.not_lt_zero j), .inl ⟨congrArg Prod.fst hx, rfl⟩⟩
  · simp [Value.cells] at hcs
    obtain ⟨rfl, rfl, rfl⟩ := hcs
    have hlm : len ≤ m := by rw [hmm]; split <;> omega
    have key : ∀ i, i < len → ∃ y : RootD, (w.cell? (x.add (i * 3)) = some (.bool y.raw) ∧ w.cell? ((x.add (i * 3)).add 1) = some (.int .i64 y.n) ∧ w.cell? ((x.add (i * 3)).add 2) = some (.int .u64 y.x)) ∧ RootOk y := by
      intro i him
      obtain ⟨cs', hc, ht'⟩ := hi i (by omega)
      rw [hC] at hc
      obtain ⟨_, hcl, hat⟩ := World.cells?_some hc
      obtain ⟨ys, n', hn', hy, hlen, hyl, hfs⟩ := DataW.trod_struct he ht'
      obtain ⟨o0, k0⟩ := hone_of hone 0 f0 rfl
      obtain ⟨o1, k1⟩ := hone_of hone 1 f1 rfl
      obtain ⟨o2, k2⟩ := hone_of hone 2 f2 rfl
      match cs', hcl with
      | [c0, c1, c2], _ =>
        match ys, hyl with
        | [y0, y1, y2], _ =>
          have g0 := hfs 0 f0 rfl
          have g1 := hfs 1 f1 rfl
          have g2 := hfs 2 f2 rfl
          rw [o0, k0] at g0
          rw [o1, k1] at g1
          rw [o2, k2] at g2
          obtain ⟨z0, e0, _⟩ := DataW.trod_bool u0 g0
          obtain ⟨z1, e1, _, hz1⟩ := DataW.trod_int u1 g1
          obtain ⟨z2, e2, _, hz2⟩ := DataW.trod_int u2 g2
          simp at e0 e1 e2
          subst e0 e1 e2
          have hz1' : -9223372036854775808 ≤ z1 ∧ z1 < 9223372036854775808 := by
            simp [Lit.wf, IntKind.min, IntKind.max] at hz1
            simp [IntKind.signed, IntKind.bits] at hz1
            omega
          have hz2' : 0 ≤ z2 ∧ z2 < 18446744073709551616 := by
            simp [Lit.wf, IntKind.min, IntKind.max] at hz2
            simp [IntKind.signed, IntKind.bits] at hz2
            omega
          refine ⟨⟨z0, z1, z2⟩, ⟨?_, ?_, ?_⟩, ⟨hz1', hz2'⟩⟩
          · have := hat 0 (by omega)
            simpa [Addr.add] using this
          · exact hat 1 (by omega)
          · exact hat 2 (by omega)
    obtain ⟨l, hll, hp⟩ := list_of len key
    refine ⟨l, hll.symm, by omega, fun j hj => ?_, fun j hj => (hp j hj).2, .inr ⟨(List.range len).map D, (List.range (m - len)).map fun j => D (len + j), congrArg Prod.fst hx, by rw [List.length_map, List.length_map, List.length_range, List.length_range]; omega⟩⟩
    obtain ⟨⟨p0, p1, p2⟩, _⟩ := hp j hj
    obtain ⟨⟨q0, _, _⟩, _⟩ := hp 0 (by omega)
    have hsp : x.spot = none := by
      have := World.cell?_spot q0
      simpa [Addr.add] using this
    obtain ⟨b, o, sp⟩ := x
    simp only at hsp
    subst hsp
    have ea : ∀ k, (⟨b, o, none⟩ : Addr).add k = ⟨b, o + k, none⟩ := fun k => by unfold Addr.add; split <;> simp_all
    refine ⟨b, o, rfl, ?_, ?_, ?_⟩
    · rw [ea] at p0; exact p0
    · rw [ea] at p1
      have eb : ∀ k q, (⟨b, q, none⟩ : Addr).add k = ⟨b, q + k, none⟩ := fun k q => by unfold Addr.add; split <;> simp_all
      rw [eb] at p1; exact p1
    · rw [ea] at p2
      have eb : ∀ k q, (⟨b, q, none⟩ : Addr).add k = ⟨b, q + k, none⟩ := fun k q => by unfold Addr.add; split <;> simp_all
      rw [eb] at p2; exact p2
end
end Go.Proofs.YthgnihckeckaiaaDoor.Tm
