/- A slice of slices of cells that came in, its numbers' bounds too. -/
import Derived.Test.YtejcbpbhhofhlaaDoorOpnA
import Derived.Test.YtejcbpbhhofhlaaDoorArV
namespace Go.Proofs.YtejcbpbhhofhlaaDoor.Tm
open Go.ChangeShapes Go.WideShapes Go.Deep Go.RowKit Go.Joins
set_option linter.unusedVariables false
set_option linter.unusedSimpArgs false

section
variable {H : Type} {enc : TypeId × Value → H} {P : Program} {w : World} {base : Nat} {spare : Nat → Bool} {held : Bool}
theorem weights_all_mem {e : TypeId} : ∀ {ds : List (DataW H)} {d : DataW H}, d ∈ ds → ∀ n ∈ d.weights P e, n ∈ DataW.weightsAll P e ds
  | d0 :: ds, d, h, n, hn => by
    simp only [DataW.weightsAll, List.mem_append]
    rcases List.mem_cons.1 h with rfl | h
    · exact .inl hn
    · exact .inr (weights_all_mem h n hn)
  | [], _, h, _, _ => by cases h
theorem weights_in {t e : TypeId} {es sp : List (DataW H)} {d : DataW H} (hu : P.underlying t = some (.slice e)) (hd : d ∈ es) : ∀ n ∈ d.weights P e, n ∈ (DataW.slice es sp).weights P t := by
  intro n hn
  simp only [DataW.weights, hu, List.mem_cons, List.mem_append]
  exact .inr (.inl (weights_all_mem hd n hn))
theorem sized_len {t e : TypeId} {d : DataW H} {len B : Nat} (hu : P.underlying t = some (.slice e)) (hB : P.bytesOf e = B) (hw : ∀ n ∈ d.weights P t, n ≤ reachBytes) (h : d = .nil ∧ len = 0 ∨ ∃ es sp : List (DataW H), d = .slice es sp ∧ len ≤ es.length + sp.length) : len * B ≤ 140737488351232 := by
  rcases h with ⟨_, rfl⟩ | ⟨es, sp, rfl, hl⟩
  · simp
  · have z := hw ((es.length + sp.length) * P.bytesOf e) (by simp [DataW.weights, hu])
    rw [hB] at z
    exact Nat.le_trans (Nat.mul_le_mul_right _ hl) z
theorem open_acells2 {t e q : TypeId} {f0 f1 f2 : Field} {a : Option Addr} {len cap : Nat} {d : DataW H} {ps : List MemPlace}
    (ht : P.underlying t = some (.slice e)) (he : P.underlying e = some (.slice q)) (hq : P.underlying q = some (.struct #[f0, f1, f2])) (hone : oneCellFields P #[f0, f1, f2] = true) (hC : P.cellsOf q = 3) (hE : P.cellsOf e = 1) (hB : P.bytesOf q = 32)
    (u0 : P.underlying f0.type = some (.int .i64)) (u1 : P.underlying f1.type = some (.int .i64)) (u2 : P.underlying f2.type = some .string)
    (h : DataW.Trod enc P w base spare held t (.slice a len cap) d ps) (hw : ∀ n ∈ d.weights P t, n ≤ reachBytes) :
    ∃ ls : List (List CellD), len = ls.length ∧ ls.length ≤ cap ∧ Reads2 w a ls ∧ (Fine2 ls ∧ ∀ t ∈ ls, ∀ c ∈ t, WfC c) ∧
      (d = .nil ∧ len = 0 ∨ ∃ es sp : List (DataW H), d = .slice es sp ∧ len ≤ es.length + sp.length) := by
  obtain ⟨fuel, hf⟩ := h
  rcases open_slice ht hf with ⟨hcs, hx⟩ | ⟨x, l, c, m, n, D, Pl, hcs, hb, hl, hm, hmm, hx, hi⟩
  · simp [Value.cells] at hcs
    obtain ⟨rfl, rfl, rfl⟩ := hcs
    exact ⟨[], rfl, by simp, Reads2.nil _ _, ⟨Fine2.nil, fun t ht => (by cases ht)⟩, .inl ⟨congrArg Prod.fst hx, rfl⟩⟩
  · simp [Value.cells] at hcs
    obtain ⟨rfl, rfl, rfl⟩ := hcs
    have hd : d = .slice ((List.range len).map D) ((List.range (m - len)).map fun j => D (len + j)) := congrArg Prod.fst hx
    have hlm : len ≤ m := by rw [hmm]; split <;> omega
    have key : ∀ i, i < len → ∃ y : List CellD, (∃ A c', w.cell? (x.add i) = some (.slice A y.length c') ∧ y.length ≤ c' ∧ Reads w A y) ∧ Fine y ∧ ∀ c ∈ y, WfC c := by
      intro i him
      obtain ⟨cs', hc, ht'⟩ := hi i (by omega)
      rw [hE, Nat.mul_one] at hc
      obtain ⟨_, hcl, hat⟩ := World.cells?_some hc
      match cs', hcl with
      | [v], _ =>
        have hv := hat 0 (by omega)
        have ev : (x.add i).add 0 = x.add i := by unfold Addr.add; simp
        rw [ev] at hv
        have hwi : ∀ n ∈ (D i).weights P e, n ≤ reachBytes := fun n hn => hw n (by
          rw [hd]
          exact weights_in ht (List.mem_map.2 ⟨i, List.mem_range.2 him, rfl⟩) n hn)
        rcases open_slice he ht' with ⟨hv', hx'⟩ | ⟨x', l', c', m', n', D', Pl', hv', _⟩
        · simp at hv'
          subst hv'
          refine ⟨[], ⟨none, 0, by simpa using hv, by simp, Reads.nil _ _⟩, Fine.nil, fun c hc => (by cases hc)⟩
        · simp at hv'
          subst hv'
          obtain ⟨y, e1, e2, e3, e4, e5⟩ := open_acells (w := w) (a := some x') (len := l') (cap := c') (d := D i) (ps := Pl i) he hq hone hC u0 u1 u2 ⟨n, ht'⟩
          subst e1
          exact ⟨y, ⟨_, _, by simpa using hv, e2, e3⟩, ⟨sized_len he hB hwi e5, fun j hj => (e4 j hj).text⟩, fun c hc => by
            obtain ⟨j, hj, rfl⟩ := List.mem_iff_getElem.1 hc
            exact e4 j hj⟩
    obtain ⟨ls, hll, hp⟩ := list_of len key
    refine ⟨ls, hll.symm, by omega, fun j hj => ?_, ⟨fun j hj => (hp j hj).2.1, fun t ht => by
      obtain ⟨j, hj, rfl⟩ := List.mem_iff_getElem.1 ht
      exact (hp j hj).2.2⟩, .inr ⟨_, _, hd, by rw [List.length_map, List.length_map, List.length_range, List.length_range]; omega⟩⟩
    obtain ⟨⟨A, c', q0, q1, q2⟩, _⟩ := hp j hj
    obtain ⟨⟨_, _, z0, _⟩, _⟩ := hp 0 (by omega)
    have hsp : x.spot = none := by
      have := World.cell?_spot z0
      simpa [Addr.add] using this
    obtain ⟨b, o, sp⟩ := x
    simp only at hsp
    subst hsp
    have ea : ∀ k, (⟨b, o, none⟩ : Addr).add k = ⟨b, o + k, none⟩ := fun k => by unfold Addr.add; split <;> simp_all
    rw [ea] at q0
    exact ⟨b, o, rfl, A, c', q0, q1, q2⟩
end
end Go.Proofs.YtejcbpbhhofhlaaDoor.Tm
