/- Layer 4: a script of calls, slices of ints and of words that came in. -/
import Derived.Test.YthgnihckeckaiaaDoorOpnA
import Derived.Test.YthgnihckeckaiaaDoorDpA
namespace Go.Proofs.YthgnihckeckaiaaDoor.Tm
open Go.ChangeShapes Go.WideShapes Go.Deep Go.RowKit Go.Joins
set_option linter.unusedVariables false
set_option linter.unusedSimpArgs false

section
variable {H : Type} {enc : TypeId × Value → H} {P : Program} {w : World} {base : Nat} {spare : Nat → Bool} {held : Bool}
theorem weights_all_mem {e : TypeId} : ∀ {ds : List (DataW H)} {d : DataW H}, d ∈ ds → ∀ n ∈ d.weights P e, n ∈ DataW.weightsAll P e ds
  | d0 :: ds, d, h, n, hn => by
    simp only [DataW.weightsAll, List.mem_append]
    rcases List.mem_cons.1 h with rfl | h
    · exact .inl hn
    · exact .inr (weights_all_mem h n hn)
  | [], _, h, _, _ => by cases h
theorem weights_in {t e : TypeId} {es sp : List (DataW H)} {d : DataW H} (hu : P.underlying t = some (.slice e)) (hd : d ∈ es) : ∀ n ∈ d.weights P e, n ∈ (DataW.slice es sp).weights P t := by
  intro n hn
  simp only [DataW.weights, hu, List.mem_cons, List.mem_append]
  exact .inr (.inl (weights_all_mem hd n hn))
theorem sized_len {t e : TypeId} {d : DataW H} {len B : Nat} (hu : P.underlying t = some (.slice e)) (hB : P.bytesOf e = B) (hw : ∀ n ∈ d.weights P t, n ≤ reachBytes) (h : d = .nil ∧ len = 0 ∨ ∃ es sp : List (DataW H), d = .slice es sp ∧ len ≤ es.length + sp.length) : len * B ≤ 140737488351232 := by
  rcases h with ⟨_, rfl⟩ | ⟨es, sp, rfl, hl⟩
  · simp
  · have z := hw ((es.length + sp.length) * P.bytesOf e) (by simp [DataW.weights, hu])
    rw [hB] at z
    exact Nat.le_trans (Nat.mul_le_mul_right _ hl) z
theorem weights_part {t : TypeId} {fs : Array Field} {parts : List (DataW H)} {j : Nat} {f : Field} {d : DataW H} (hu : P.underlying t = some (.struct fs)) (hf : (fs.toList.map (·.type))[j]? = some f.type) (hd : parts[j]? = some d) : ∀ n ∈ d.weights P f.type, n ∈ (DataW.agg parts).weights P t := by
  intro n hn
  simp only [DataW.weights, hu]
  exact DataW.weights_mem_each hf hd n hn
theorem open_nums {t e : TypeId} {k : IntKind} {a : Option Addr} {len cap : Nat} {d : DataW H} {ps : List MemPlace}
    (ht : P.underlying t = some (.slice e)) (he : P.underlying e = some (.int k)) (hC : P.cellsOf e = 1)
    (h : DataW.Trod enc P w base spare held t (.slice a len cap) d ps) :
    ∃ l : List Int, len = l.length ∧ l.length ≤ cap ∧ (∀ j (h : j < l.length), ∃ b o, a = some ⟨b, o, none⟩ ∧ w.cell? ⟨b, o + j, none⟩ = some (.int k l[j])) ∧ (∀ x ∈ l, k.min ≤ x ∧ x ≤ k.max) ∧
      (d = .nil ∧ len = 0 ∨ ∃ es sp : List (DataW H), d = .slice es sp ∧ len ≤ es.length + sp.length) := by
  obtain ⟨fuel, hf⟩ := h
  rcases open_slice ht hf with ⟨hcs, hx⟩ | ⟨x, l, c, m, n, D, Pl, hcs, hb, hl, hm, hmm, hx, hi⟩
  · simp [Value.cells] at hcs
    obtain ⟨rfl, rfl, rfl⟩ := hcs
    exact ⟨[], rfl, by simp, fun j hj => absurd hj (Nat.not_lt_zero j), fun x hx => (by cases hx), .inl ⟨congrArg Prod.fst hx, rfl⟩⟩
  · simp [Value.cells] at hcs
    obtain ⟨rfl, rfl, rfl⟩ := hcs
    have hd : d = .slice ((List.range len).map D) ((List.range (m - len)).map fun j => D (len + j)) := congrArg Prod.fst hx
    have hlm : len ≤ m := by rw [hmm]; split <;> omega
    have key : ∀ i, i < len → ∃ y : Int, w.cell? (x.add i) = some (.int k y) ∧ k.min ≤ y ∧ y ≤ k.max := by
      intro i him
      obtain ⟨cs', hc, ht'⟩ := hi i (by omega)
      rw [hC, Nat.mul_one] at hc
      obtain ⟨_, hcl, hat⟩ := World.cells?_some hc
      match cs', hcl with
      | [v], _ =>
        have hv := hat 0 (by omega)
        have ev : (x.add i).add 0 = x.add i := by unfold Addr.add; simp
        rw [ev] at hv
        obtain ⟨z, e0, _, hz⟩ := DataW.trod_int he ht'
        simp at e0
        subst e0
        refine ⟨z, by simpa using hv, ?_⟩
        simpa [Lit.wf] using hz
    obtain ⟨l, hll, hp⟩ := list_of len key
    refine ⟨l, hll.symm, by omega, fun j hj => ?_, fun y hy => by
      obtain ⟨j, hj, rfl⟩ := List.mem_iff_getElem.1 hy
      exact (hp j hj).2, .inr ⟨_, _, hd, by rw [List.length_map, List.length_map, List.length_range, List.length_range]; omega⟩⟩
    have q0 := (hp j hj).1
    have z0 := (hp 0 (by omega)).1
    have hsp : x.spot = none := by
      have := World.cell?_spot z0
      simpa [Addr.add] using this
    obtain ⟨b, o, sp⟩ := x
    simp only at hsp
    subst hsp
    have ea : ∀ k, (⟨b, o, none⟩ : Addr).add k = ⟨b, o + k, none⟩ := fun k => by unfold Addr.add; split <;> simp_all
    rw [ea] at q0
    exact ⟨b, o, rfl, q0⟩
theorem open_ints {t e : TypeId} {a : Option Addr} {len cap : Nat} {d : DataW H} {ps : List MemPlace}
    (ht : P.underlying t = some (.slice e)) (he : P.underlying e = some (.int .i64)) (hC : P.cellsOf e = 1)
    (h : DataW.Trod enc P w base spare held t (.slice a len cap) d ps) :
    ∃ l : List Int, len = l.length ∧ l.length ≤ cap ∧ NReads w a l ∧ (∀ x ∈ l, -9223372036854775808 ≤ x ∧ x < 9223372036854775808) ∧
      (d = .nil ∧ len = 0 ∨ ∃ es sp : List (DataW H), d = .slice es sp ∧ len ≤ es.length + sp.length) := by
  obtain ⟨l, h1, h2, h3, h4, h5⟩ := open_nums ht he hC h
  refine ⟨l, h1, h2, h3, fun x hx => ?_, h5⟩
  have := h4 x hx
  simp [IntKind.min, IntKind.max, IntKind.signed, IntKind.bits] at this
  omega
theorem open_words {t e : TypeId} {a : Option Addr} {len cap : Nat} {d : DataW H} {ps : List MemPlace}
    (ht : P.underlying t = some (.slice e)) (he : P.underlying e = some (.int .u64)) (hC : P.cellsOf e = 1)
    (h : DataW.Trod enc P w base spare held t (.slice a len cap) d ps) :
    ∃ l : List Int, len = l.length ∧ l.length ≤ cap ∧ WReads w a l ∧ (∀ x ∈ l, 0 ≤ x ∧ x < 18446744073709551616) ∧
      (d = .nil ∧ len = 0 ∨ ∃ es sp : List (DataW H), d = .slice es sp ∧ len ≤ es.length + sp.length) := by
  obtain ⟨l, h1, h2, h3, h4, h5⟩ := open_nums ht he hC h
  refine ⟨l, h1, h2, h3, fun x hx => ?_, h5⟩
  have := h4 x hx
  simp [IntKind.min, IntKind.max, IntKind.signed, IntKind.bits] at this
  omega
theorem open_ops4 {t e tc ec tn en : TypeId} {f0 f1 f2 a0 a1 a2 : Field} {a : Option Addr} {len cap : Nat} {d : DataW H} {ps : List MemPlace}
    (ht : P.underlying t = some (.slice e)) (he : P.underlying e = some (.struct #[f0, f1, f2])) (hone : oneCellFields P #[f0, f1, f2] = true) (hC : P.cellsOf e = 3) (hBe : P.bytesOf e = 56)
    (u0 : P.underlying f0.type = some (.int .i64)) (u1 : f1.type = tc) (u2 : f2.type = tn)
    (hc : P.underlying tc = some (.slice ec)) (hec : P.underlying ec = some (.struct #[a0, a1, a2])) (hcone : oneCellFields P #[a0, a1, a2] = true) (hcC : P.cellsOf ec = 3) (hcB : P.bytesOf ec = 32)
    (v0 : P.underlying a0.type = some (.int .i64)) (v1 : P.underlying a1.type = some (.int .i64)) (v2 : P.underlying a2.type = some .string)
    (hn : P.underlying tn = some (.slice en)) (hen : P.underlying en = some (.int .i64)) (hnC : P.cellsOf en = 1) (hnB : P.bytesOf en = 8)
    (h : DataW.Trod enc P w base spare held t (.slice a len cap) d ps) (hw : ∀ n ∈ d.weights P t, n ≤ reachBytes) :
    ∃ ops : List Op4, len = ops.length ∧ ops.length ≤ cap ∧ Script4 w a ops ∧ (∀ op ∈ ops, Op4Ok op) ∧ ops.length ≤ 1000000000000000 := by
  subst u1 u2
  obtain ⟨fuel, hf⟩ := h
  rcases open_slice ht hf with ⟨hcs, hx⟩ | ⟨x, l, c, m, n, D, Pl, hcs, hb, hl, hm, hmm, hx, hi⟩
  · simp [Value.cells] at hcs
    obtain ⟨rfl, rfl, rfl⟩ := hcs
    exact ⟨[], rfl, by simp, fun j hj => absurd hj (Nat.not_lt_zero j), fun p hp => (by cases hp), by simp⟩
  · simp [Value.cells] at hcs
    obtain ⟨rfl, rfl, rfl⟩ := hcs
    have hd : d = .slice ((List.range len).map D) ((List.range (m - len)).map fun j => D (len + j)) := congrArg Prod.fst hx
    have hlm : len ≤ m := by rw [hmm]; split <;> omega
    have hlb := sized_len (len := len) ht hBe hw (.inr ⟨_, _, hd, by rw [List.length_map, List.length_map, List.length_range, List.length_range]; omega⟩)
    have key : ∀ i, i < len → ∃ y : Op4, (∃ AT AN cT cN, w.cell? (x.add (i * 3)) = some (.int .i64 y.kind) ∧ w.cell? ((x.add (i * 3)).add 1) = some (.slice AT y.T.length cT) ∧ w.cell? ((x.add (i * 3)).add 2) = some (.slice AN y.N.length cN) ∧ Reads w AT y.T ∧ NReads w AN y.N ∧ y.T.length ≤ cT ∧ y.N.length ≤ cN) ∧ Op4Ok y := by
      intro i him
      obtain ⟨cs', hcc, ht'⟩ := hi i (by omega)
      rw [hC] at hcc
      obtain ⟨_, hcl, hat⟩ := World.cells?_some hcc
      obtain ⟨ys, n', hn', hy, hlen, hyl, hfs⟩ := DataW.trod_struct he ht'
      obtain ⟨o0, k0⟩ := hone_of hone 0 f0 rfl
      obtain ⟨o1, k1⟩ := hone_of hone 1 f1 rfl
      obtain ⟨o2, k2⟩ := hone_of hone 2 f2 rfl
      have hwi : ∀ n ∈ (D i).weights P e, n ≤ reachBytes := fun n hn => hw n (by
        rw [hd]
        exact weights_in ht (List.mem_map.2 ⟨i, List.mem_range.2 him, rfl⟩) n hn)
      match cs', hcl with
      | [c0, c1, c2], _ =>
        match ys, hyl with
        | [y0, y1, y2], _ =>
          have g0 := hfs 0 f0 rfl
          have g1 := hfs 1 f1 rfl
          have g2 := hfs 2 f2 rfl
          rw [o0, k0] at g0
          rw [o1, k1] at g1
          rw [o2, k2] at g2
          obtain ⟨z0, e0, _, _⟩ := DataW.trod_int u0 g0
          simp at e0
          subst e0
          have hDe : D i = .agg [y0.1, y1.1, y2.1] := congrArg Prod.fst hy
          rw [hDe] at hwi
          have hw1 : ∀ n ∈ y1.1.weights P f1.type, n ≤ reachBytes := fun n hn => hwi n (weights_part (j := 1) (f := f1) he rfl rfl n hn)
          have hw2 : ∀ n ∈ y2.1.weights P f2.type, n ≤ reachBytes := fun n hn => hwi n (weights_part (j := 2) (f := f2) he rfl rfl n hn)
          have sl : ∀ {ty ez : TypeId} {v : Value} {y : DataW H × List MemPlace}, P.underlying ty = some (.slice ez) → DataW.trod enc P w base spare held n' ty [v] = some y → ∃ A l k, v = .slice A l k := by
            intro ty ez v y hu hg
            rcases open_slice hu hg with ⟨hv', _⟩ | ⟨x', l', c', _, _, _, _, hv', _⟩
            · exact ⟨none, 0, 0, by simpa using hv'⟩
            · exact ⟨some x', l', c', by simpa using hv'⟩
          have g1' : DataW.trod enc P w base spare held n' f1.type [c1] = some y1 := by simpa using g1
          have g2' : DataW.trod enc P w base spare held n' f2.type [c2] = some y2 := by simpa using g2
          obtain ⟨AT, lT, cT, rfl⟩ := sl hc g1'
          obtain ⟨AN, lN, cN, rfl⟩ := sl hn g2'
          obtain ⟨T, t1, t2, t3, t4, t5⟩ := open_acells (d := y1.1) (ps := y1.2) hc hec hcone hcC v0 v1 v2 ⟨n', g1'⟩
          obtain ⟨Q, q1, q2, q3, q4, q5⟩ := open_ints (d := y2.1) (ps := y2.2) hn hen hnC ⟨n', g2'⟩
          have b1 := sized_len hc hcB hw1 t5
          have b2 := sized_len hn hnB hw2 q5
          subst t1 q1
          refine ⟨⟨z0, T, Q⟩, ⟨AT, AN, cT, cN, ?_, hat 1 (by omega), hat 2 (by omega), t3, q3, t2, q2⟩, ⟨fun c hc => ?_, q4, ?_, b2⟩⟩
          · have := hat 0 (by omega)
            simpa [Addr.add] using this
          · obtain ⟨j, hj, rfl⟩ := List.mem_iff_getElem.1 hc
            exact t4 j hj
          · show T.length ≤ 1000000000000000
            omega
    obtain ⟨ops, hll, hpp⟩ := list_of len key
    refine ⟨ops, hll.symm, by omega, fun j hj => ?_, fun op hop => by
      obtain ⟨j, hj, rfl⟩ := List.mem_iff_getElem.1 hop
      exact (hpp j hj).2, by omega⟩
    obtain ⟨⟨AT, AN, cT, cN, p0, p1, p2, r1, r2, r3, r4⟩, _⟩ := hpp j hj
    obtain ⟨⟨_, _, _, _, q0, _⟩, _⟩ := hpp 0 (by omega)
    have hsp : x.spot = none := by
      have := World.cell?_spot q0
      simpa [Addr.add] using this
    obtain ⟨b, o, sp⟩ := x
    simp only at hsp
    subst hsp
    have ea : ∀ k, (⟨b, o, none⟩ : Addr).add k = ⟨b, o + k, none⟩ := fun k => by unfold Addr.add; split <;> simp_all
    have eb : ∀ k q, (⟨b, q, none⟩ : Addr).add k = ⟨b, q + k, none⟩ := fun k q => by unfold Addr.add; split <;> simp_all
    rw [ea] at p0
    rw [ea, eb] at p1 p2
    exact ⟨b, o, AT, AN, cT, cN, rfl, ⟨p0, p1, p2, r1, r2, r3, r4⟩⟩
end
end Go.Proofs.YthgnihckeckaiaaDoor.Tm
