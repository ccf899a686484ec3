/- Two arenas that stand apart. -/
import Derived.Test.YtemamhjcboelcaaDoorDpE
import Derived.Test.YtemamhjcboelcaaDoorDpA
namespace Go.Proofs.YtemamhjcboelcaaDoor.Tm
open Go.RowKit
set_option linter.unusedVariables false
set_option linter.unusedSimpArgs false

structure Duo (W : World) (O O2 : Nat → Prop) (ba room : Nat) (L : List ObjA) (bb room2 : Nat) (L2 : List ObjA) : Prop where
  a1 : ArAt W O ba room L
  a2 : ArAt W O2 bb room2 L2
  ap : ∀ k, O k → ¬ O2 k
theorem Duo.swap {W : World} {O O2 : Nat → Prop} {ba room : Nat} {L : List ObjA} {bb room2 : Nat} {L2 : List ObjA} (h : Duo W O O2 ba room L bb room2 L2) : Duo W O2 O bb room2 L2 ba room L := ⟨h.a2, h.a1, fun k h2 h1 => h.ap k h1 h2⟩
theorem Duo.below {W W' : World} {O O2 : Nat → Prop} {ba room : Nat} {L : List ObjA} {bb room2 : Nat} {L2 : List ObjA} (h : Duo W O O2 ba room L bb room2 L2) (hB : Below W.heap.size W W') : Duo W' O O2 ba room L bb room2 L2 := ⟨h.a1.below hB, h.a2.below hB, h.ap⟩
theorem Duo.made2 {W W' : World} {O O2 : Nat → Prop} {ba room : Nat} {L : List ObjA} {bb room2 : Nat} {L2 L2' : List ObjA} (h : Duo W O O2 ba room L bb room2 L2) (hM : Made W W' O2 bb room2 L2') :
    ∃ O2', Duo W' O O2' ba room L bb room2 L2' ∧ (∀ k, O2' k → O2 k ∨ W.heap.size ≤ k) ∧ Fr O2 W W' := by
  obtain ⟨O', b1, b2, b3, b4⟩ := hM
  refine ⟨O', ⟨h.a1.fr b4 h.ap, b1, fun k hk ho => ?_⟩, b3, b4⟩
  rcases b3 k ho with h' | h'
  · exact h.ap k hk h'
  · have := (h.a1.lim k hk).2; omega
theorem Duo.made1 {W W' : World} {O O2 : Nat → Prop} {ba room : Nat} {L L' : List ObjA} {bb room2 : Nat} {L2 : List ObjA} (h : Duo W O O2 ba room L bb room2 L2) (hM : Made W W' O ba room L') :
    ∃ O', Duo W' O' O2 ba room L' bb room2 L2 ∧ (∀ k, O' k → O k ∨ W.heap.size ≤ k) ∧ Fr O W W' := by
  obtain ⟨O', h1, h2, h3⟩ := h.swap.made2 hM
  exact ⟨O', h1.swap, h2, h3⟩
/-- The block of a row of cells. -/
theorem row_addr {w : World} {base n c : Nat} {e : TypeId} {size : Nat} {A : Option Addr} {xs : List Value} (h : w.ownsRow base e size (.slice A n c) n xs) : ∀ g o, A = some ⟨g, o, none⟩ → base ≤ g ∧ g < w.heap.size := by
  intro g o e
  subst e
  rcases h.2 with ⟨e, _⟩ | ⟨g', c', cur, e, _⟩
  · cases e
  · injection e with e1 _ _
    injection e1 with e1
    injection e1 with e1 e2 _
    subst e1
    subst e2
    exact ⟨row_base h g rfl, row_lt h g rfl⟩
theorem told_ans {L : List ObjA} {x : Int} {t : List CellD} (h : Tells L [x] t) (hl : t.length ≤ 1024) : GetAns L x t 0 := .inr ⟨t, h, by unfold ttOf; rw [if_pos hl], by unfold erOf; rw [if_pos hl]⟩
end Go.Proofs.YtemamhjcboelcaaDoor.Tm
