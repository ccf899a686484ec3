/- What came in, as plain data; the three laid tables. -/
import Derived.Test.YthgnihckeckaiaaDoorBase
import Derived.Deep.Slices
import Derived.Deep.Fields
import Derived.ChangeSame
import Derived.SizedLaws
import Derived.Lib.SmallJoins
import Derived.Test.YthgnihckeckaiaaDoorArC
import Derived.Test.YthgnihckeckaiaaDoorRows
import Derived.Test.YthgnihckeckaiaaDoorShelf
import Derived.Lib.LaidU8T
import Derived.LaidLaws
import Derived.LaidHandle
import Derived.PinnedBridge
import Derived.Lib.LaidIn
import Derived.ChangeVars
import Derived.JoinedOf
import Derived.RowKit
import Derived.KernelRfl
namespace Go.Proofs.YthgnihckeckaiaaDoor.Tm
open Go.ChangeShapes Go.WideShapes Go.Deep Go.RowKit Go.Joins
set_option linter.unusedVariables false
set_option linter.unusedSimpArgs false

theorem list_of {α : Type} {P : Nat → α → Prop} : ∀ n, (∀ i, i < n → ∃ c, P i c) → ∃ l : List α, l.length = n ∧ ∀ j (h : j < l.length), P j l[j]
  | 0, _ => ⟨[], rfl, fun j h => absurd h (Nat.not_lt_zero j)⟩
  | n + 1, h => by
    obtain ⟨l, hl, hp⟩ := list_of n (fun i hi => h i (by omega))
    obtain ⟨c, hc⟩ := h n (by omega)
    refine ⟨l ++ [c], by simp [hl], fun j hj => ?_⟩
    rw [List.getElem_append]
    split
    · exact hp j _
    · simp at hj
      have : j = n := by omega
      subst this
      simpa using hc
section
variable {H : Type} {enc : TypeId × Value → H} {P : Program} {w : World} {base : Nat} {spare : Nat → Bool} {held : Bool}
theorem open_acells {t e : TypeId} {f0 f1 f2 : Field} {a : Option Addr} {len cap : Nat} {d : DataW H} {ps : List MemPlace}
    (ht : P.underlying t = some (.slice e)) (he : P.underlying e = some (.struct #[f0, f1, f2])) (hone : oneCellFields P #[f0, f1, f2] = true) (hC : P.cellsOf e = 3)
    (u0 : P.underlying f0.type = some (.int .i64)) (u1 : P.underlying f1.type = some (.int .i64)) (u2 : P.underlying f2.type = some .string)
    (h : DataW.Trod enc P w base spare held t (.slice a len cap) d ps) :
    ∃ l : List CellD, len = l.length ∧ l.length ≤ cap ∧ Reads w a l ∧ (∀ j (hj : j < l.length), WfC l[j]) ∧
      (d = .nil ∧ len = 0 ∨ ∃ es sp : List (DataW H), d = .slice es sp ∧ len ≤ es.length + sp.length) := by
  obtain ⟨fuel, hf⟩ := h
  rcases open_slice ht hf with ⟨hcs, hx⟩ | ⟨x, l, c, m, n, D, Pl, hcs, hb, hl, hm, hmm, hx, hi⟩
  · simp [Value.cells] at hcs
    obtain ⟨rfl, rfl, rfl⟩ := hcs
    exact ⟨[], rfl, by simp, Reads.nil _ _, fun j hj => absurd hj (Nat.not_lt_zero j), .inl ⟨congrArg Prod.fst hx, rfl⟩⟩
  · simp [Value.cells] at hcs
    obtain ⟨rfl, rfl, rfl⟩ := hcs
    have hlm : len ≤ m := by rw [hmm]; split <;> omega
    have key : ∀ i, i < len → ∃ y : CellD, (w.cell? (x.add (i * 3)) = some (.int .i64 y.kind) ∧ w.cell? ((x.add (i * 3)).add 1) = some (.int .i64 y.n) ∧ w.cell? ((x.add (i * 3)).add 2) = some (.string y.text)) ∧ WfC y := by
      intro i him
      obtain ⟨cs', hc, ht'⟩ := hi i (by omega)
      rw [hC] at hc
      obtain ⟨_, hcl, hat⟩ := World.cells?_some hc
      obtain ⟨ys, n', hn', hy, hlen, hyl, hfs⟩ := DataW.trod_struct he ht'
      obtain ⟨o0, k0⟩ := hone_of hone 0 f0 rfl
      obtain ⟨o1, k1⟩ := hone_of hone 1 f1 rfl
      obtain ⟨o2, k2⟩ := hone_of hone 2 f2 rfl
      match cs', hcl with
      | [c0, c1, c2], _ =>
        match ys, hyl with
        | [y0, y1, y2], _ =>
          have g0 := hfs 0 f0 rfl
          have g1 := hfs 1 f1 rfl
          have g2 := hfs 2 f2 rfl
          rw [o0, k0] at g0
          rw [o1, k1] at g1
          rw [o2, k2] at g2
          obtain ⟨z0, e0, _, _⟩ := DataW.trod_int u0 g0
          obtain ⟨z1, e1, _, hz1⟩ := DataW.trod_int u1 g1
          obtain ⟨z2, e2, _, hz2⟩ := DataW.trod_string u2 g2
          simp at e0 e1 e2
          subst e0 e1 e2
          have hz1' : -9223372036854775808 ≤ z1 ∧ z1 < 9223372036854775808 := by
            simp [Lit.wf, IntKind.min, IntKind.max] at hz1
            simp [IntKind.signed, IntKind.bits] at hz1
            omega
          refine ⟨⟨z0, z1, z2⟩, ⟨?_, ?_, ?_⟩, ⟨hz1'.1, hz1'.2, hz2⟩⟩
          · have := hat 0 (by omega)
            simpa [Addr.add] using this
          · exact hat 1 (by omega)
          · exact hat 2 (by omega)
    obtain ⟨l, hll, hp⟩ := list_of len key
    refine ⟨l, hll.symm, by omega, fun j hj => ?_, fun j hj => (hp j hj).2, .inr ⟨(List.range len).map D, (List.range (m - len)).map fun j => D (len + j), congrArg Prod.fst hx, by rw [List.length_map, List.length_map, List.length_range, List.length_range]; omega⟩⟩
    obtain ⟨⟨p0, p1, p2⟩, _⟩ := hp j hj
    obtain ⟨⟨q0, _, _⟩, _⟩ := hp 0 (by omega)
    have hsp : x.spot = none := by
      have := World.cell?_spot q0
      simpa [Addr.add] using this
    obtain ⟨b, o, sp⟩ := x
    simp only at hsp
    subst hsp
    have ea : ∀ k, (⟨b, o, none⟩ : Addr).add k = ⟨b, o + k, none⟩ := fun k => by unfold Addr.add; split <;> simp_all
    refine ⟨b, o, rfl, ?_, ?_, ?_⟩
    · rw [ea] at p0; exact p0
    · rw [ea] at p1
      have eb : ∀ k q, (⟨b, q, none⟩ : Addr).add k = ⟨b, q + k, none⟩ := fun k q => by unfold Addr.add; split <;> simp_all
      rw [eb] at p1; exact p1
    · rw [ea] at p2
      have eb : ∀ k q, (⟨b, q, none⟩ : Addr).add k = ⟨b, q + k, none⟩ := fun k q => by unfold Addr.add; split <;> simp_all
      rw [eb] at p2; exact p2
theorem sized_cells {t e : TypeId} {ts : List TypeId} {ds : List (DataW H)} {j len B : Nat} {d : DataW H} (hsz : (DataW.weightsEach P ts ds).all (· ≤ reachBytes) = true) (ht : ts[j]? = some t) (hd : ds[j]? = some d) (hu : P.underlying t = some (.slice e)) (hB : P.bytesOf e = B)
    (h : d = .nil ∧ len = 0 ∨ ∃ es sp : List (DataW H), d = .slice es sp ∧ len ≤ es.length + sp.length) : len * B ≤ 140737488351232 := by
  rcases h with ⟨_, rfl⟩ | ⟨es, sp, rfl, hl⟩
  · simp
  · have z := sized_slice hsz ht hd hu
    rw [hB] at z
    exact Nat.le_trans (Nat.mul_le_mul_right _ hl) z
end
set_option maxRecDepth 100000
def laidL : List (String × DataW Unit) := [("unicode/utf8.acceptRanges", Rows.laid_unicode_utf8_acceptRanges), ("parley/arena.plain", Rows.laid_parley_arena_plain), ("unicode/utf8.first", Rows.laid_unicode_utf8_first)]
theorem accept_eq : (Rows.laid_unicode_utf8_acceptRanges : DataW Unit) = Lib.acceptData := by kernel_rfl
theorem utf_of_laid {W : World} (h : laidMetH Tryd.prog laidL W) : Lib.Utf8Tabs 1 2 W := by
  have hL : laidMet Tryd.prog laidL W := h
  have h3 : Lib.VarReads Tryd.prog W "unicode/utf8.first" Lib.firstData := by
    rw [← Pinned.utf8First_eq]
    exact Lib.laidMet.reads hL (.tail _ (.tail _ (.head _)))
  have h4 : Lib.VarReads Tryd.prog W "unicode/utf8.acceptRanges" Lib.acceptData := by
    rw [← accept_eq]
    exact Lib.laidMet.reads hL (.head _)
  exact utf8Tabs_of_readsT (ρ := Tryd.lays260_ren) (U8Types.of260 Tryd.lays260) ⟨by kernel_rfl, by kernel_rfl, by kernel_rfl, by kernel_rfl, by kernel_rfl, by kernel_rfl, by kernel_rfl⟩ h3 h4
def plainL : List Int := [0, 2, 1, 2, 2, 1, 0, 2, 1]
theorem plain_eq : (Rows.laid_parley_arena_plain : DataW Unit) = Lib.tabData .i64 plainL := by kernel_rfl
theorem tabs_of_laid {W : World} (h : laidMetH Tryd.prog laidL W) : TabsA W := by
  refine ⟨utf_of_laid h, fun k hk => ?_⟩
  have hL : laidMet Tryd.prog laidL W := h
  have h5 : Lib.VarReads Tryd.prog W "parley/arena.plain" (Lib.tabData .i64 plainL) := by
    rw [← plain_eq]
    exact Lib.laidMet.reads hL (.tail _ (.head _))
  obtain ⟨g, t, cs, fuel, p, hg, hty, hvar, hd⟩ := h5
  obtain rfl := Option.some.inj ((show Tryd.prog.globalNamed "parley/arena.plain" = some 0 by kernel_rfl).symm.trans hg)
  obtain rfl := Option.some.inj ((show (Tryd.prog.globals[0]?).map (·.type) = some 156 by kernel_rfl).symm.trans hty)
  have hcs := Lib.cells_of_tab Tryd.underlying156 Tryd.underlying3 (by kernel_rfl) (by kernel_rfl) hd
  have := World.var?_cell hg hvar k
  rw [this, ← Array.getElem?_toList, hcs]
  match k, hk with
  | 0, _ => rfl
  | 1, _ => rfl
  | 2, _ => rfl
  | 3, _ => rfl
  | 4, _ => rfl
  | 5, _ => rfl
  | 6, _ => rfl
  | 7, _ => rfl
  | 8, _ => rfl
/-- A world that has them. -/
noncomputable def laidWorld (os : Os) : World :=
  let w0 := World.holding Tryd.prog os ⟨#[], #[], []⟩
  let put (h : Array Obj) (g : Nat) (cs : Array Value) : Array Obj := h.modify g fun
    | .cells _ t frozen => .cells cs t frozen
    | o => o
  let h1 := put w0.heap 1 (Lib.firstTab.map fun z => Value.int .u8 z).toArray
  let h2 := put h1 2 ((List.range 16).flatMap fun i => [Value.int .u8 (Lib.accLo i), Value.int .u8 (Lib.accHi i)]).toArray
  let h3 := put h2 0 (plainL.map fun z => Value.int .i64 z).toArray
  { w0 with heap := h3 }
theorem laid_met (os : Os) (args : Array Value) : laidMetH Tryd.prog laidL ((laidWorld os).forCall (fun _ _ => 0) ⟨#[], args, []⟩).memory :=
  laidMetH_of_parts ((LaidIn.of_run (P := Tryd.prog) (w := ((laidWorld os).forCall (fun _ _ => 0) ⟨#[], args, []⟩).memory) (l := laidL) [2, 0, 1] 8 (by kernel_rfl) (by kernel_rfl) (by kernel_rfl) (by kernel_rfl)).met) (by kernel_rfl)
end Go.Proofs.YthgnihckeckaiaaDoor.Tm
