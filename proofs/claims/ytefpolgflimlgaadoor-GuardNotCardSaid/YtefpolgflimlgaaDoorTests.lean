/- Slices of tests in memory. -/
import Derived.Test.YtefpolgflimlgaaDoorGuardP
import Derived.Test.YtefpolgflimlgaaDoorApp
import Derived.Test.YtefpolgflimlgaaDoorReads2
import Derived.Test.YtefpolgflimlgaaDoorSpoil
namespace Go.Proofs.YtefpolgflimlgaaDoor.Tm
open Go.RowKit
set_option linter.unusedVariables false
set_option linter.unusedSimpArgs false

def encT (g : List TestD) : List Value := g.flatMap TestD.vals
theorem encT_length (g : List TestD) : (encT g).length = g.length * 7 := by
  unfold encT
  induction g with
  | nil => rfl
  | cons a l ih => simp [TestD.vals, CellD.vals] at ih ⊢; omega
theorem encT_append (a b : List TestD) : encT (a ++ b) = encT a ++ encT b := by simp [encT]
theorem encT_one (g : List TestD) : ∀ v ∈ encT g, v.oneCell' = true := by
  intro v hv
  simp only [encT, List.mem_flatMap] at hv
  obtain ⟨c, _, hv⟩ := hv
  simp [TestD.vals, CellD.vals] at hv
  rcases hv with rfl | rfl | rfl | rfl | rfl | rfl | rfl <;> rfl
theorem encT_at (g : List TestD) : ∀ j k (h : j < g.length), k < 7 → (encT g)[j * 7 + k]? = (g[j]).vals[k]? := by
  induction g with
  | nil => intro j k h; simp at h
  | cons a l ih =>
    intro j k h hk
    have e : encT (a :: l) = a.vals ++ encT l := rfl
    have hl : a.vals.length = 7 := rfl
    rw [e]
    cases j with
    | zero =>
      rw [Nat.zero_mul, Nat.zero_add, List.getElem?_append_left (by omega)]; rfl
    | succ j =>
      rw [List.getElem?_append_right (by omega), hl, show (j + 1) * 7 + k - 7 = j * 7 + k by omega, List.getElem_cons_succ]
      exact ih j k (by simpa using h) hk
/-- The test at an address. -/
structure TestAt (w : World) (b o : Nat) (t : TestD) : Prop where
  op : w.cell? ⟨b, o, none⟩ = some (.int .i64 t.op)
  ak : w.cell? ⟨b, o + 1, none⟩ = some (.int .i64 t.a.kind)
  an : w.cell? ⟨b, o + 2, none⟩ = some (.int .i64 t.a.n)
  at_ : w.cell? ⟨b, o + 3, none⟩ = some (.string t.a.text)
  bk : w.cell? ⟨b, o + 4, none⟩ = some (.int .i64 t.b.kind)
  bn : w.cell? ⟨b, o + 5, none⟩ = some (.int .i64 t.b.n)
  bt : w.cell? ⟨b, o + 6, none⟩ = some (.string t.b.text)
theorem TestAt.below {w W : World} {b o : Nat} {t : TestD} (h : TestAt w b o t) (hB : Below w.heap.size w W) : TestAt W b o t :=
  ⟨cell_below hB h.op, cell_below hB h.ak, cell_below hB h.an, cell_below hB h.at_, cell_below hB h.bk, cell_below hB h.bn, cell_below hB h.bt⟩
theorem TestAt.flat {w : World} {b o : Nat} {t : TestD} (h : TestAt w b o t) : ∀ k u, k < 7 → t.vals[k]? = some u → w.cell? ⟨b, o + k, none⟩ = some u := by
  intro k u hk e
  have hk' : k = 0 ∨ k = 1 ∨ k = 2 ∨ k = 3 ∨ k = 4 ∨ k = 5 ∨ k = 6 := by omega
  rcases hk' with rfl | rfl | rfl | rfl | rfl | rfl | rfl <;> (simp [TestD.vals, CellD.vals] at e; subst e)
  · exact h.op
  · exact h.ak
  · exact h.an
  · exact h.at_
  · exact h.bk
  · exact h.bn
  · exact h.bt
def TReads (w : World) (A : Option Addr) (g : List TestD) : Prop := ∀ j (h : j < g.length), ∃ b o, A = some ⟨b, o, none⟩ ∧ TestAt w b (o + j * 7) g[j]
theorem TReads.below {w W : World} {A : Option Addr} {g : List TestD} (h : TReads w A g) (hB : Below w.heap.size w W) : TReads W A g := fun j hj => by
  obtain ⟨b, o, e, hc⟩ := h j hj
  exact ⟨b, o, e, hc.below hB⟩
theorem TReads.nil (w : World) (A : Option Addr) : TReads w A [] := fun j hj => absurd hj (Nat.not_lt_zero j)
theorem TReads.take {w : World} {A : Option Addr} {g : List TestD} (h : TReads w A g) (m : Nat) : TReads w A (g.take m) := fun j hj => by
  obtain ⟨b, o, e, hc⟩ := h j (by simp at hj; omega)
  exact ⟨b, o, e, by rw [List.getElem_take]; exact hc⟩
theorem TReads.drew {w : World} {A : Option Addr} {g : List TestD} (h : TReads w A g) : TReads w.drew A g := h.below ((Below.refl _ _).drew)
theorem TReads.of_block {w : World} {g0 o : Nat} {cs : Array Value} {t : TypeId} {g : List TestD} (h : w.heap[g0]? = some (.cells cs t (0, 0))) (hc : ∀ j u, (encT g)[j]? = some u → cs[o + j]? = some u) : TReads w (some ⟨g0, o, none⟩) g := fun j hj => by
  have key : ∀ k u, k < 7 → (g[j]).vals[k]? = some u → w.cell? ⟨g0, o + j * 7 + k, none⟩ = some u := fun k u hk e => by
    have := hc (j * 7 + k) u (by rw [encT_at g j k hj hk]; exact e)
    rw [← Nat.add_assoc] at this
    simp [World.cell?, h, this]
  exact ⟨g0, o, rfl, ⟨key 0 _ (by omega) rfl, key 1 _ (by omega) rfl, key 2 _ (by omega) rfl, key 3 _ (by omega) rfl, key 4 _ (by omega) rfl, key 5 _ (by omega) rfl, key 6 _ (by omega) rfl⟩⟩
theorem TReads.new (w : World) {cs : Array Value} {t : TypeId} {g : List TestD} (hc : cs.toList = encT g) : TReads (w.alloc (.cells cs t)) (some ⟨w.heap.size, 0, none⟩) g :=
  TReads.of_block (heap_new w _) fun j u hu => by rw [Nat.zero_add, ← Array.getElem?_toList, hc]; exact hu
theorem TReads.of_row {w : World} {base cap n : Nat} {A : Option Addr} {e : TypeId} {g : List TestD} {rest : List Value} (h : w.ownsRow base e 7 (.slice A n cap) n (encT g ++ rest)) : TReads w A g := by
  intro j hj
  have hn : 0 < n := by have := h.1; rw [List.length_append, encT_length] at this; omega
  rcases h.2 with ⟨h', h0⟩ | ⟨g0, cap', cur, h', _, hh, _, _, _, ht⟩
  · omega
  · obtain ⟨rfl, rfl⟩ : A = some ⟨g0, 0, none⟩ ∧ cap = cap' := by simpa using h'
    refine TReads.of_block hh (fun k u hu => ?_) j hj
    have hk : k < (encT g).length := (List.getElem?_eq_some_iff.1 hu).1
    have e1 : (cur.toList.take (n * 7))[k]? = some u := by rw [ht, List.getElem?_append_left hk]; exact hu
    rw [List.getElem?_take] at e1
    split at e1
    · rw [Nat.zero_add, ← Array.getElem?_toList]; exact e1
    · cases e1
theorem Src.of_treads {w : World} {A : Option Addr} {g : List TestD} (h : TReads w A g) : Src w 7 A g.length (encT g) := by
  refine ⟨encT_length g, fun e => ?_, fun ad e j u hj => ?_, encT_one g⟩
  · rcases Nat.eq_zero_or_pos g.length with h0 | h0
    · exact h0
    · obtain ⟨b, o, e', _⟩ := h 0 h0
      rw [e] at e'; cases e'
  · have hlt := (List.getElem?_eq_some_iff.1 hj).1
    rw [encT_length] at hlt
    obtain ⟨b, o, e', hc⟩ := h (j / 7) (by omega)
    subst e'
    cases e
    have ea : ((⟨b, o, none⟩ : Addr).add j) = ⟨b, o + j, none⟩ := by unfold Addr.add; split <;> simp_all
    rw [ea]
    have e2 := encT_at g (j / 7) (j % 7) (by omega) (Nat.mod_lt _ (by omega))
    rw [show j / 7 * 7 + j % 7 = j by omega] at e2
    have := hc.flat (j % 7) u (Nat.mod_lt _ (by omega)) (by rw [← e2]; exact hj)
    rw [show o + j / 7 * 7 + j % 7 = o + j by omega] at this
    exact this
/-- What bounds tests that came in. -/
structure FineT (g : List TestD) : Prop where
  len : g.length * 72 ≤ 140737488351232
  text : ∀ j (h : j < g.length), (g[j]).a.text.size ≤ 9223372036854775807 ∧ (g[j]).b.text.size ≤ 9223372036854775807
end Go.Proofs.YtefpolgflimlgaaDoor.Tm
