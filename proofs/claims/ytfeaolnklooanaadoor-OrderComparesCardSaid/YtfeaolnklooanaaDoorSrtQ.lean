/- order.Sort's contract. -/
import Derived.Test.YtfeaolnklooanaaDoorSrtO
namespace Go.Proofs.YtfeaolnklooanaaDoor.Tm
open Go.RowKit Go.Proofs.YtfeaolnklooanaaDoor.Sx
set_option linter.unusedVariables false
set_option linter.unusedSimpArgs false

theorem shuf_perm {β : Type} (f : El → β) {n : Nat} {d e : Nat → El} (h : Shuf 0 n d e) : ((List.range n).map fun i => f (e i)).Perm ((List.range n).map fun i => f (d i)) := by
  obtain ⟨σ, τ, h1, h2, h3, h4⟩ := h
  have hin : ∀ i, i < n → σ i < n := fun i hi => by
    apply Nat.lt_of_not_le
    intro k
    have := h3 (σ i) (.inr k)
    have e1 := h2 (σ i)
    rw [this, h2] at e1
    omega
  have hin2 : ∀ i, i < n → τ i < n := fun i hi => by
    apply Nat.lt_of_not_le
    intro k
    have := h3 (τ i) (.inr k)
    rw [h1] at this
    omega
  have e1 : ((List.range n).map fun i => f (e i)) = ((List.range n).map σ).map fun i => f (d i) := by
    rw [List.map_map]
    exact List.map_congr_left fun i hi => by simp [h4]
  rw [e1]
  refine List.Perm.map _ ((List.perm_ext_iff_of_nodup ?_ List.nodup_range).2 fun x => ?_)
  · refine List.Pairwise.map (R := fun a b => a ≠ b) σ (fun x y hxy e => hxy ?_) List.nodup_range
    have := congrArg τ e
    rwa [h2, h2] at this
  · simp only [List.mem_map, List.mem_range]
    constructor
    · rintro ⟨y, hy, rfl⟩; exact hin y hy
    · intro hx; exact ⟨τ x, hin2 x hx, h1 x⟩
def elOf (ys : List Yld) (i : Nat) : El := match ys[i]? with
  | some y => ⟨y.A, y.l, y.c⟩
  | none => ⟨none, [], 0⟩
def yOf (e : El) : Yld := ⟨0, 0, e.A, e.l, e.c⟩
theorem elOf_at {ys : List Yld} {i : Nat} (h : i < ys.length) : elOf ys i = ⟨ys[i].A, ys[i].l, ys[i].c⟩ := by simp [elOf, h]
theorem elOf_val {β : Type} (ys : List Yld) (f : Option Addr → List CellD → Nat → β) : ((List.range ys.length).map fun i => f (elOf ys i).A (elOf ys i).l (elOf ys i).c) = ys.map fun y => f y.A y.l y.c := by
  apply List.ext_getElem (by simp)
  intro i h1 h2
  have hi : i < ys.length := by simpa using h2
  simp [elOf_at hi]
/-- What Sort hands back. -/
def SortAt (lo : Nat) (ls : List (List CellD)) (v : Value) (ys : List Yld) (V : World) : Prop :=
  V.ownsRow lo 22 1 v ys.length (ys.map Yld.val) ∧ YRows lo ys V ∧ YApart ys ∧ (ys.map Yld.l).Perm ls ∧ (ys.map Yld.l).Pairwise (fun a b => termCmp a b ≤ 0)
theorem SortAt.below {lo : Nat} {ls : List (List CellD)} {v : Value} {ys : List Yld} {V W : World} (h : SortAt lo ls v ys V) (hB : Below V.heap.size V W) : SortAt lo ls v ys W :=
  ⟨row_below h.1 hB, h.2.1.below hB, h.2.2.1, h.2.2.2⟩
/-- From the row of copies to the row in order. -/
theorem sort_at {w0 w w' : World} {lo g n c : Nat} {ys : List Yld} {ls : List (List CellD)} {d : Nat → El} (hrow : w.ownsRow lo 22 1 (.slice (some ⟨g, 0, none⟩) n c) n (ys.map Yld.val)) (hlen : ys.length = n) (hy : YRows lo ys w) (ha : YApart ys) (hl : ys.map Yld.l = ls) (hr : ∀ l ∈ ls, (rightE l).1 = 0)
    (hR : RowD w' g n d) (hS : Shuf 0 n (elOf ys) d) (hT : Srt TermR 0 n d) (hG : Gro g w w') :
    SortAt lo ls (.slice (some ⟨g, 0, none⟩) n c) ((List.range n).map fun i => yOf (d i)) w' := by
  subst hlen
  have hval : ((List.range ys.length).map fun i => yOf (d i)).map Yld.val = (List.range ys.length).map fun i => (d i).val := by rw [List.map_map]; rfl
  have hlm : ((List.range ys.length).map fun i => yOf (d i)).map Yld.l = (List.range ys.length).map fun i => (d i).l := by rw [List.map_map]; rfl
  have hsrc : ∀ i, i < ys.length → ∃ j, ∃ h : j < ys.length, d i = ⟨ys[j].A, ys[j].l, ys[j].c⟩ := fun i hi => by
    obtain ⟨j, _, h2, h3⟩ := hS.src (Nat.zero_le i) hi
    exact ⟨j, h2, by rw [h3, elOf_at h2]⟩
  have hrt : ∀ i, i < ys.length → (rightE (d i).l).1 = 0 := fun i hi => by
    obtain ⟨j, hj, e⟩ := hsrc i hi
    rw [e]
    exact hr _ (hl ▸ List.mem_map_of_mem (List.getElem_mem hj))
  refine ⟨?_, ?_, ?_, ?_, ?_⟩
  · rw [hval, List.length_map, List.length_range]
    exact row_sorted hrow hG hR
  · intro y hy'
    obtain ⟨i, hi, rfl⟩ := List.mem_map.1 hy'
    rw [List.mem_range] at hi
    obtain ⟨j, hj, e⟩ := hsrc i hi
    rw [e]
    have r1 := hy ys[j] (List.getElem_mem hj)
    exact World.ownsRow.kept r1 hG.by_ (rows_ne r1 hrow (by decide))
  · unfold YApart
    have hp : (((List.range ys.length).map fun i => yOf (d i)).map Yld.val).Perm (ys.map Yld.val) := by
      rw [hval]
      have := shuf_perm El.val hS
      have e := elOf_val ys (fun A l c => Value.slice A l.length c)
      exact this.trans (by rw [show (fun i => (elOf ys i).val) = fun i => Value.slice (elOf ys i).A (elOf ys i).l.length (elOf ys i).c from rfl, e]; exact List.Perm.refl _)
    have h1 : (ys.map Yld.val).Pairwise (fun v u => v.ownBlock = none ∨ v.ownBlock ≠ u.ownBlock) := List.pairwise_map.2 ha
    exact List.pairwise_map.1 (hp.symm.pairwise h1 fun {x y} hxy => by
      rcases hxy with h | h
      · rw [h]
        cases hy : y.ownBlock with
        | none => exact .inl rfl
        | some k => exact .inr (by simp)
      · cases hy : y.ownBlock with
        | none => exact .inl rfl
        | some k => exact .inr (by rw [← hy]; exact fun e => h e.symm))
  · rw [hlm, ← hl]
    have := shuf_perm El.l hS
    exact this.trans (by rw [elOf_val ys (fun A l c => l)])
  · rw [hlm]
    refine List.pairwise_map.2 ((List.pairwise_lt_range).imp_of_mem fun {a b} ha hb hab => ?_)
    rw [List.mem_range] at ha hb
    rcases hT a b (Nat.zero_le _) (by omega) hb with k | ⟨_, k⟩
    · exact absurd (hrt a ha) k
    · exact k
theorem row_rowD {w : World} {lo g n c : Nat} {ys : List Yld} (hrow : w.ownsRow lo 22 1 (.slice (some ⟨g, 0, none⟩) n c) n (ys.map Yld.val)) (hlen : ys.length = n) : RowD w g n (elOf ys) := fun i hi => by
  subst hlen
  exact ⟨(row_cell1 hrow (yval_at hi)).trans (by rw [elOf_at hi]; rfl), row_frozen hrow i⟩
theorem row_allOk {w : World} {lo g n c : Nat} {ys : List Yld} (hrow : w.ownsRow lo 22 1 (.slice (some ⟨g, 0, none⟩) n c) n (ys.map Yld.val)) (hlen : ys.length = n) (hy : YRows lo ys w) (hl : ∀ y ∈ ys, y.l.length ≤ 1024) : AllOk w g n (elOf ys) := fun i hi => by
  subst hlen
  rw [elOf_at hi]
  have r := hy ys[i] (List.getElem_mem hi)
  refine ⟨r.reads.2, hl _ (List.getElem_mem hi), fun bb o e => ?_⟩
  have := rows_ne r hrow (by decide)
  simp only at e
  rw [e] at this
  simp only [Value.ownBlock] at this
  intro hb
  rcases this with k | k
  · cases k
  · exact k (by rw [hb])
end Go.Proofs.YtfeaolnklooanaaDoor.Tm
