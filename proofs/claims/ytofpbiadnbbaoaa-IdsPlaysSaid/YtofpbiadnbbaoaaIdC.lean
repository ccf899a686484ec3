/- Contracts of layer 13: Take, Live, Free of a table of places. -/
import Derived.Test.YtofpbiadnbbaoaaIdB
import Derived.Deep.QuietTactic
import Derived.BigQuiet
namespace Go.Proofs.Ytofpbiadnbbaoaa.Ids
open Go.RowKit
set_option linter.unusedVariables false
set_option linter.unusedSimpArgs false

/-- A table of places: its struct in block b, its row in block c. -/
structure PidsAt (W : World) (b c : Nat) (l : List (Int × Bool)) : Prop where
  top : W.heap[b]? = some (rowOf c)
  row : W.heap[c]? = some (gensOf l)
  len : l.length = 64
theorem PidsAt.cell {W : World} {b c : Nat} {l : List (Int × Bool)} (h : PidsAt W b c l) : W.cell? ⟨b, 0, none⟩ = some (.slice (some ⟨c, 0, none⟩) 64 64) := cell_of_one h.top
theorem PidsAt.gen {W : World} {b c : Nat} {l : List (Int × Bool)} (h : PidsAt W b c l) (k : Nat) (hk : k < l.length) : W.cell? ⟨c, k * 2, none⟩ = some (.int .i64 (l[k]).1) := by
  have := plc_gen' l k hk
  simp [World.cell?, h.row, gensOf, this]
theorem PidsAt.taken {W : World} {b c : Nat} {l : List (Int × Bool)} (h : PidsAt W b c l) (k : Nat) (hk : k < l.length) : W.cell? ⟨c, k * 2 + 1, none⟩ = some (.bool (l[k]).2) := by
  have := plc_taken' l k hk
  simp [World.cell?, h.row, gensOf, this]
theorem PidsAt.free {W : World} {b c : Nat} {l : List (Int × Bool)} (h : PidsAt W b c l) (k : Nat) : W.frozen? ⟨c, k, none⟩ = false := by
  simp [World.frozen?, h.row, gensOf]
theorem PidsAt.ne {W : World} {b c : Nat} {l : List (Int × Bool)} (h : PidsAt W b c l) : b ≠ c := by
  intro e; subst e
  have := h.top.symm.trans h.row
  simp [rowOf, gensOf] at this
theorem PidsAt.ltb {W : World} {b c : Nat} {l : List (Int × Bool)} (h : PidsAt W b c l) : b < W.heap.size := lt_of_block h.top
theorem PidsAt.ltc {W : World} {b c : Nat} {l : List (Int × Bool)} (h : PidsAt W b c l) : c < W.heap.size := lt_of_block h.row
/-- It stays where only other blocks are written. -/
theorem PidsAt.kept {W W' : World} {b c : Nat} {l : List (Int × Bool)} {row : Option Nat} (h : PidsAt W b c l) (hg : W.grownBy W' row) (hb : row ≠ some b) (hc : row ≠ some c) : PidsAt W' b c l :=
  ⟨(hg.block b h.ltb (fun e => hb e.symm)).trans h.top, (hg.block c h.ltc (fun e => hc e.symm)).trans h.row, h.len⟩
theorem heap_setCell_self {w : World} {b i : Nat} {a : Array Value} {t : TypeId} {fr : Nat × Nat} {v : Value} (h : w.heap[b]? = some (.cells a t fr)) : (w.setCell ⟨b, i, none⟩ v).heap[b]? = some (.cells (a.setIfInBounds i v) t fr) := by
  have hlt := lt_of_block h
  have h' : w.heap[b] = .cells a t fr := by simpa [Array.getElem?_eq_getElem hlt] using h
  show (w.heap.modify b _)[b]? = _
  rw [Array.getElem?_eq_getElem (by simpa using hlt), Array.getElem_modify_self, h']
  rfl
theorem PidsAt.setTaken {W : World} {b c : Nat} {l : List (Int × Bool)} (h : PidsAt W b c l) (k : Nat) (hk : k < l.length) (x : Bool) : PidsAt (W.setCell ⟨c, k * 2 + 1, none⟩ (.bool x)) b c (l.set k ((l[k]).1, x)) :=
  ⟨by rw [Below.heap_setCell _ _ _ _ h.ne]; exact h.top, by rw [heap_setCell_self h.row, plc_set_taken' l k hk]; rfl, by simp [h.len]⟩
theorem PidsAt.setGen {W : World} {b c : Nat} {l : List (Int × Bool)} (h : PidsAt W b c l) (k : Nat) (hk : k < l.length) (x : Int) : PidsAt (W.setCell ⟨c, k * 2, none⟩ (.int .i64 x)) b c (l.set k (x, (l[k]).2)) :=
  ⟨by rw [Below.heap_setCell _ _ _ _ h.ne]; exact h.top, by rw [heap_setCell_self h.row, plc_set_gen' l k hk]; rfl, by simp [h.len]⟩
theorem grown_setCell (w : World) (c i : Nat) (v : Value) : w.grownBy (w.setCell ⟨c, i, none⟩ v) (some c) :=
  ⟨rfl, rfl, rfl, by simp [World.setCell], fun k _ hk => Below.heap_setCell _ _ _ _ (fun e => hk (by rw [e]))⟩
theorem grown_trans {a b c : World} {row : Option Nat} (h : a.grownBy b row) (k : b.grownBy c row) : a.grownBy c row :=
  ⟨k.os.trans h.os, k.tape.trans h.tape, k.output.trans h.output, Nat.le_trans h.size k.size, fun i hi hr => (k.block i (Nat.lt_of_lt_of_le hi h.size) hr).trans (h.block i hi hr)⟩
theorem grown_below {a b : World} (h : Below a.heap.size a b) (row : Option Nat) : a.grownBy b row := ⟨h.os, h.tape, h.output, h.size, fun i hi _ => h.block i hi⟩

theorem below_alloc' {w W : World} (h : Below w.heap.size w W) (o : Obj) : Below w.heap.size w (W.alloc o) := h.alloc h.size o
/-- May a place be taken? -/
def okP (p : Int × Bool) : Bool := !p.2 && decide (p.1 ≤ 17179869183)
def takeK (l : List (Int × Bool)) : Nat := l.findIdx okP

theorem take_nil (w : World) : Calls Try.prog 38 #[.pointer none] w fun e w' => e = .returned (.tuple #[.int .i64 0, .int .i64 2]) ∧ w = w' := by
  go_enter Try.func38, Try.ntmps38
  go_wp2
  go_ret2
  exact ⟨rfl, rfl⟩

set_option maxHeartbeats 400000 in
theorem take_any (b c : Nat) (l : List (Int × Bool)) (w : World) (h : PidsAt w b c l) (hg : ∀ p ∈ l, 0 ≤ p.1) :
    Calls Try.prog 38 #[.pointer (some ⟨b, 0, none⟩)] w fun e w' =>
      (∃ (k : Nat) (hk : k < l.length), (∀ j (hj : j < k), okP (l[j]'(Nat.lt_trans hj hk)) = false) ∧ okP l[k] = true ∧
        e = .returned (.tuple #[.int .i64 ((l[k]).1 * 64 + k + 1), .int .i64 0]) ∧ PidsAt w' b c (l.set k ((l[k]).1, true)) ∧ w.grownBy w' (some c)) ∨
      ((∀ j (hj : j < l.length), okP l[j] = false) ∧ e = .returned (.tuple #[.int .i64 0, .int .i64 132]) ∧ Below w.heap.size w w') := by
  have hcell := h.cell
  have hlb := h.ltb
  have hlc := h.ltc
  have hlen := Lib.hid h.len
  go_enter Try.func38, Try.ntmps38
  go_wp2_with fail
  go_loopw [13] (fun i wr => ∃ k : Nat, k ≤ 64 ∧ i = .int .i64 k ∧ Below w.heap.size w wr ∧ Hid (∀ j (hj : j < l.length), j < k → okP l[j] = false)) (fun i wr => 64 - (intOf i).toNat)
  case atStart => exact ⟨0, by omega, rfl, Below.refl _ _, fun j _ hj => absurd hj (Nat.not_lt_zero j)⟩
  case round =>
    obtain ⟨k, hk, rfl, hB, hno⟩ := hrel
    by_cases hlt : k < 64
    · have hkl : k < l.length := by rw [hlen.out]; exact hlt
      have hP := h.kept (grown_below hB none) (by simp) (by simp)
      have c0 := hP.gen k hkl
      have c1 := hP.taken k hkl
      have ct := hP.cell
      have f1 := hP.free (k * 2 + 1)
      have hlc' := hP.ltc
      have hlb' := hP.ltb
      have hg0 := hg l[k] (List.getElem_mem hkl)
      have HP := Lib.hid hP
      clear hP hg
      generalize hgt : l[k] = p at c0 c1 hg0
      have HT := Lib.hid hgt
      clear hgt
      obtain ⟨g, t⟩ := p
      simp only at c0 c1 hg0
      cases t with
      | true =>
        go_wp2
        go_roundw
        case rel => exact ⟨k + 1, by omega, by go_num, below_alloc' hB _, fun j hj hjk => by
          rcases Nat.lt_succ_iff_lt_or_eq.1 hjk with e | rfl
          · exact hno.out j hj e
          · rw [HT.out]; rfl⟩
        case measure => simp [intOf]; omega
      | false =>
        by_cases hm : g ≤ 17179869183
        · have HM := Lib.hid (mkP_yes (p := (k : Int)) (g := g) (by omega) (by omega) hg0 hm)
          go_wp2_with fail
          refine (make_any _ _ _).mono ?_
          rintro e w' ⟨rfl, rfl⟩
          go_wp2
          go_ret2
          refine Or.inl ⟨k, hkl, fun j hj => hno.out j _ hj, by rw [HT.out]; simp [okP]; omega, ?_, ?_, ?_⟩
          · show Ending.returned (.tuple #[.int .i64 (mkP (k : Int) g).1, .int .i64 (mkP (k : Int) g).2]) = _
            rw [HM.out, HT.out]
          · have hS := HP.out.setTaken k hkl true
            first
            | exact hS.kept (World.grownBy_alloc _ _ none) (by simp) (by simp)
            | exact (HP.out.kept (World.grownBy_alloc _ _ none) (by simp) (by simp)).setTaken k hkl true
          · have hS := grown_trans (grown_below hB (some c)) (grown_setCell wr c (k * 2 + 1) (.bool true))
            first
            | exact grown_trans hS (World.grownBy_alloc _ _ _)
            | exact grown_trans (grown_below (below_alloc' hB _) (some c)) (grown_setCell _ c (k * 2 + 1) (.bool true))
        · go_wp2
          go_roundw
          case rel => exact ⟨k + 1, by omega, by go_num, below_alloc' hB _, fun j hj hjk => by
            rcases Nat.lt_succ_iff_lt_or_eq.1 hjk with e | rfl
            · exact hno.out j hj e
            · rw [HT.out]; simp [okP]; omega⟩
          case measure => simp [intOf]; omega
    · go_wp2
      go_ret2
      exact Or.inr ⟨fun j hj => hno.out j hj (by have := hlen.out; omega), rfl, hB⟩
end Go.Proofs.Ytofpbiadnbbaoaa.Ids
