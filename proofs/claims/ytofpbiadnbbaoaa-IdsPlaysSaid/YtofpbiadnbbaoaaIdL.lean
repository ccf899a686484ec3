/- layer 13: no pid is told twice: plain lists. -/
import Derived.Test.YtofpbiadnbbaoaaIdE
import Derived.Test.YtofpbiadnbbaoaaIdH
namespace Go.Proofs.Ytofpbiadnbbaoaa.Ids
set_option linter.unusedVariables false
set_option linter.unusedSimpArgs false

/-- t has been told: a pid of a place whose generation is behind, or has it now. -/
def Told (l : List (Int × Bool)) (t : Int) : Prop := ∃ j, ∃ h : j < l.length, ∃ g, t = g * 64 + j + 1 ∧ (g < (l[j]).1 ∨ (g = (l[j]).1 ∧ (l[j]).2 = true))
theorem pinv_fresh {g : Int} (h0 : 0 ≤ g) (h1 : g ≤ 17179869183) : PInv (fresh g 64) := by
  have h : ∀ p ∈ fresh g 64, p = (g, false) := by intro p hp; simpa [Ids.fresh] using hp
  exact ⟨fresh_length g 64 (by omega), fun p hp => by rw [h p hp]; exact h0, fun p hp => by rw [h p hp]; show g ≤ _; omega, fun p hp e => by rw [h p hp] at e; simp at e⟩
theorem mem_set_or {α : Type} {l : List α} {k : Nat} {a x : α} (h : x ∈ l.set k a) : x = a ∨ x ∈ l := by
  rcases List.mem_or_eq_of_mem_set h with h | h
  · exact .inr h
  · exact .inl h
theorem PInv.take {l : List (Int × Bool)} (h : PInv l) (k : Nat) (hk : k < l.length) (hok : okP l[k] = true) : PInv (l.set k ((l[k]).1, true)) := by
  have hm := List.getElem_mem hk
  simp [okP] at hok
  refine ⟨by simp [h.len], fun p hp => ?_, fun p hp => ?_, fun p hp e => ?_⟩
  · rcases mem_set_or hp with rfl | hp
    · exact h.pos l[k] hm
    · exact h.pos p hp
  · rcases mem_set_or hp with rfl | hp
    · have := h.top _ hm; exact this
    · exact h.top p hp
  · rcases mem_set_or hp with rfl | hp
    · exact hok.2
    · exact h.live p hp e
theorem PInv.free {l : List (Int × Bool)} (h : PInv l) (k : Nat) (hk : k < l.length) (g : Int) (hg0 : 0 ≤ g) (hg : g ≤ 17179869184) : PInv (l.set k (g, false)) := by
  refine ⟨by simp [h.len], fun p hp => ?_, fun p hp => ?_, fun p hp e => ?_⟩
  · rcases mem_set_or hp with rfl | hp
    · exact hg0
    · exact h.pos p hp
  · rcases mem_set_or hp with rfl | hp
    · exact hg
    · exact h.top p hp
  · rcases mem_set_or hp with rfl | hp
    · simp at e
    · exact h.live p hp e
theorem Told.take {l : List (Int × Bool)} {t : Int} (h : Told l t) (k : Nat) (hk : k < l.length) (hok : okP l[k] = true) : Told (l.set k ((l[k]).1, true)) t := by
  obtain ⟨j, hj, g, e, hg⟩ := h
  refine ⟨j, by simpa using hj, g, e, ?_⟩
  rw [List.getElem_set]
  split
  · next e2 => subst e2; rcases hg with hg | hg
               · exact .inl hg
               · exact .inr ⟨hg.1, rfl⟩
  · exact hg
theorem Told.new {l : List (Int × Bool)} (k : Nat) (hk : k < l.length) : Told (l.set k ((l[k]).1, true)) ((l[k]).1 * 64 + k + 1) :=
  ⟨k, by simpa using hk, (l[k]).1, rfl, .inr (by simp)⟩
theorem Told.ne {l : List (Int × Bool)} {t : Int} (h : Told l t) (k : Nat) (hk : k < l.length) (hl : l.length = 64) (hok : okP l[k] = true) : t ≠ (l[k]).1 * 64 + k + 1 := by
  obtain ⟨j, hj, g, rfl, hg⟩ := h
  intro e
  have hjk : j = k := by omega
  subst hjk
  have : g = (l[j]).1 := by omega
  rcases hg with hg | hg
  · omega
  · simp [okP, hg.2] at hok
theorem Told.free {l : List (Int × Bool)} {t : Int} (h : Told l t) (k : Nat) (hk : k < l.length) (g0 : Int) (hg0 : l[k] = (g0, true)) : Told (l.set k (g0 + 1, false)) t := by
  obtain ⟨j, hj, g, e, hg⟩ := h
  refine ⟨j, by simpa using hj, g, e, ?_⟩
  rw [List.getElem_set]
  split
  · next e2 =>
    subst e2
    rw [hg0] at hg
    left
    rcases hg with hg | hg
    · simp at hg; show g < g0 + 1; omega
    · simp at hg; show g < g0 + 1; omega
  · exact hg
theorem liveP_of {l : List (Int × Bool)} (h : PInv l) {x : Int} (hx : IsPid l 64 x) : liveP l x = true := by
  obtain ⟨j, hj, hk, ht, rfl⟩ := hx
  have hm := List.getElem_mem hj
  have h0 := h.pos _ hm
  have h1 := h.live _ hm ht
  rw [liveP_yes (by omega) (by omega) j hj (by omega)]
  have e : ((l[j]).1 * 64 + j + 1 - 1) / 64 = (l[j]).1 := by omega
  rw [e]
  rw [beq_iff_eq, ← ht]
theorem freed_dead {l : List (Int × Bool)} {x : Int} (hx : liveP l x = true) : liveP (l.set ((x - 1) % 64).toNat ((x - 1) / 64 + 1, false)) x = false := by
  obtain ⟨h0, h1, k, hk, e, hl⟩ := liveP_at hx
  rw [e, Int.toNat_natCast]
  have hk2 : k < (l.set k ((x - 1) / 64 + 1, false)).length := by simpa using hk
  rw [liveP_yes h0 h1 k hk2 e, List.getElem_set_self]
  simp
theorem freed_inv {l : List (Int × Bool)} (h : PInv l) {x : Int} (hx : liveP l x = true) : PInv (l.set ((x - 1) % 64).toNat ((x - 1) / 64 + 1, false)) := by
  obtain ⟨h0, h1, k, hk, e, hl⟩ := liveP_at hx
  rw [e, Int.toNat_natCast]
  exact h.free k hk _ (by omega) (by omega)
theorem freed_told {l : List (Int × Bool)} {x t : Int} (hx : liveP l x = true) (h : Told l t) : Told (l.set ((x - 1) % 64).toNat ((x - 1) / 64 + 1, false)) t := by
  obtain ⟨h0, h1, k, hk, e, hl⟩ := liveP_at hx
  rw [e, Int.toNat_natCast]
  exact h.free k hk _ hl
end Go.Proofs.Ytofpbiadnbbaoaa.Ids
