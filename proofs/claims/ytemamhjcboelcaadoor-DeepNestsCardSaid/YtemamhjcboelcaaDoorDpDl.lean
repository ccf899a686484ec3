/- The law's depth. -/
import Derived.Test.YtemamhjcboelcaaDoorDpL
import Derived.Test.YtemamhjcboelcaaDoorDpD
import Derived.Deep.OwnRows
import Derived.BigQuiet
namespace Go.Proofs.YtemamhjcboelcaaDoor.Tm
open Go.RowKit
set_option linter.unusedVariables false
set_option linter.unusedSimpArgs false

theorem look_none : ∀ {d : List (Int × Nat)} {p : Int}, p ∉ d.map Prod.fst → lookD d p = 0
  | [], _, _ => rfl
  | q :: d, p, h => by
    unfold lookD
    rw [if_neg (fun e => h (by simp [e])), look_none (fun hm => h (by simp at hm ⊢; exact .inr hm))]
theorem look_snoc : ∀ {d : List (Int × Nat)} {q : Int × Nat} {p : Int}, q.1 ∉ d.map Prod.fst → lookD (d ++ [q]) p = if p = q.1 then q.2 else lookD d p
  | [], q, p, _ => by simp [lookD]
  | r :: d, q, p, h => by
    rw [List.cons_append]
    unfold lookD
    have h' : q.1 ∉ d.map Prod.fst := fun hm => h (by simp at hm ⊢; exact .inr hm)
    rw [look_snoc h']
    by_cases e1 : p = r.1
    · have e2 : p ≠ q.1 := fun e => h (by simp; exact .inl (e.symm.trans e1))
      rw [if_pos e1, if_neg e2, if_pos e1]
    · rw [if_neg e1, if_neg e1]
/-- A block of numbers. -/
def encD (D : List Nat) : Array Value := (D.map fun (d : Nat) => Value.int .i64 (d : Int)).toArray
structure DSt (w5 wr : World) (g : Nat) (D : List Nat) : Prop where
  fr : Fr (fun k => k = g) w5 wr
  blk : BlkIs wr g (encD D) 3
theorem DSt.below {w5 wr w' : World} {g : Nat} {D : List Nat} (h : DSt w5 wr g D) (hB : Below wr.heap.size wr w') : DSt w5 w' g D := ⟨fr_below h.fr hB, h.blk.below hB⟩
theorem DSt.cell {w5 wr : World} {g : Nat} {D : List Nat} (h : DSt w5 wr g D) {k v : Nat} (hv : D[k]? = some v) : wr.cell? ⟨g, k, none⟩ = some (.int .i64 (v : Int)) ∧ wr.frozen? ⟨g, k, none⟩ = false :=
  ⟨h.blk.cell k (by simp [encD, hv]), h.blk.frozen k⟩
theorem DSt.set {w5 wr : World} {g : Nat} {D D' : List Nat} (h : DSt w5 wr g D) (k v : Nat) {u : Int} (hu : (v : Int) = u) (hD : D.set k v = D') : DSt w5 (wr.setCell ⟨g, k, none⟩ (.int .i64 u)) g D' := by
  subst hu
  subst hD
  refine ⟨fr_set (O := fun k => k = g) h.fr rfl _ _, ?_⟩
  have := h.blk.set k (.int .i64 (v : Int))
  have e : (encD D).setIfInBounds k (.int .i64 (v : Int)) = encD (D.set k v) := by
    unfold encD
    simp [List.map_set]
  rw [e] at this
  exact this
theorem int_info3 : (Tryd.prog.info? 3).map (fun i => (i.zero, i.size, i.bytes)) = some (some (.int .i64 0), 1, 8) := by kernel_rfl
theorem made_zero (n : Nat) : madeCells #[Value.int .i64 0] n = encD (List.replicate n 0) := by
  unfold encD
  rw [List.map_replicate]
  apply Array.ext
  · simp [madeCells]
  · intro j h1 h2
    simp [madeCells, Nat.mod_one]
def depV (L : List ObjA) (ws : List Int) (i : Nat) : List Nat := (depAll L (ws.take i)).map Prod.snd
theorem depV_len (L : List ObjA) {ws : List Int} {i : Nat} (h : i ≤ ws.length) : (depV L ws i).length = i := by
  unfold depV
  rw [List.length_map, depAll_len, List.length_take]
  omega
/-- The numbers within a round: those told, the one under way, noughts. -/
def depR (L : List ObjA) (ws : List Int) (i cur : Nat) : List Nat := depV L ws i ++ cur :: List.replicate (ws.length - i - 1) 0
theorem depR_at (L : List ObjA) {ws : List Int} {i cur : Nat} (h : i < ws.length) : (depR L ws i cur)[i]? = some cur := by
  unfold depR
  rw [List.getElem?_append_right (by rw [depV_len L (by omega)]; exact Nat.le_refl _), depV_len L (by omega)]
  simp
theorem depR_lt (L : List ObjA) {ws : List Int} {i cur k : Nat} (h : i < ws.length) (hk : k < i) : ∃ v, (depR L ws i cur)[k]? = some v ∧ (depAll L (ws.take i))[k]? = some (ws[k]'(by omega), v) := by
  have hl : k < (depAll L (ws.take i)).length := by rw [depAll_len, List.length_take]; omega
  have hf : ((depAll L (ws.take i)).map Prod.fst)[k]? = some (ws[k]'(by omega)) := by
    rw [depAll_keys, List.getElem?_take_of_lt hk]
    simp
  rw [List.getElem?_map, List.getElem?_eq_getElem hl] at hf
  simp only [Option.map_some, Option.some.injEq] at hf
  refine ⟨(depAll L (ws.take i))[k].2, ?_, ?_⟩
  · unfold depR
    rw [List.getElem?_append_left (by rw [depV_len L (by omega)]; exact hk)]
    unfold depV
    rw [List.getElem?_map, List.getElem?_eq_getElem hl]
    rfl
  · rw [List.getElem?_eq_getElem hl, ← hf]
theorem depR_set (L : List ObjA) {ws : List Int} {i cur v : Nat} (h : i < ws.length) : (depR L ws i cur).set i v = depR L ws i v := by
  unfold depR
  rw [List.set_append_right _ _ (by rw [depV_len L (by omega)]; exact Nat.le_refl _), depV_len L (by omega)]
  simp
/-- Ahead of round i. -/
def depS (L : List ObjA) (ws : List Int) (i : Nat) : List Nat := depV L ws i ++ List.replicate (ws.length - i) 0
theorem depS_start (L : List ObjA) {ws : List Int} {i : Nat} (h : i < ws.length) : depS L ws i = depR L ws i 0 := by
  unfold depS depR
  rw [show ws.length - i = (ws.length - i - 1) + 1 by omega, List.replicate_succ]
  simp
theorem depS_next (L : List ObjA) {ws : List Int} {i : Nat} (h : i < ws.length) : depR L ws i (maxD (depAll L (ws.take i)) 0 (partsW L ws[i]) + 1) = depS L ws (i + 1) := by
  unfold depS depR depV
  rw [List.take_succ_eq_append_getElem h, depAll_snoc]
  unfold depD
  rw [List.map_append, show ws.length - (i + 1) = ws.length - i - 1 by omega]
  simp
theorem lookT_succ {L : List ObjA} {ws : List Int} (hn : ws.Nodup) {i k v : Nat} {p x : Int} (h : (depAll L (ws.take i))[k]? = some (x, v)) : lookD ((depAll L (ws.take i)).take (k + 1)) p = (if p = x then v else lookD ((depAll L (ws.take i)).take k) p) ∧ (p = x → lookD ((depAll L (ws.take i)).take k) p = 0) := by
  obtain ⟨hk, he⟩ := List.getElem?_eq_some_iff.1 h
  have hkeys : ((depAll L (ws.take i)).take k).map Prod.fst = (ws.take i).take k := by rw [List.map_take, depAll_keys]
  have hx : x ∉ ((depAll L (ws.take i)).take k).map Prod.fst := by
    rw [hkeys]
    have h1 : (ws.take i)[k]? = some x := by
      have := congrArg (fun l => l[k]?) (depAll_keys L (ws.take i))
      simp only [List.getElem?_map, h, Option.map_some] at this
      exact this.symm
    obtain ⟨hk2, he2⟩ := List.getElem?_eq_some_iff.1 h1
    have hnt : (ws.take i).Nodup := hn.sublist (List.take_sublist _ _)
    intro hm
    obtain ⟨j, hj, hjx⟩ := List.mem_iff_getElem.1 hm
    rw [List.length_take] at hj
    rw [List.getElem_take] at hjx
    have := (List.getElem_inj hnt (i := j) (j := k) (h₀ := by omega) (h₁ := hk2)).1 (hjx.trans he2.symm)
    omega
  refine ⟨?_, fun e => by rw [e]; exact look_none hx⟩
  rw [List.take_succ_eq_append_getElem hk, he]
  exact look_snoc hx
end Go.Proofs.YtemamhjcboelcaaDoor.Tm
