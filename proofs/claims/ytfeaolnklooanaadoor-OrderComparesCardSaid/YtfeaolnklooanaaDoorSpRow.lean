/- SpoilAll over a row of clones of any length; Count. -/
import Derived.Test.YtfeaolnklooanaaDoorMet
import Derived.Test.YtfeaolnklooanaaDoorRws
namespace Go.Proofs.YtfeaolnklooanaaDoor.Tm
open Go.RowKit
set_option linter.unusedVariables false
set_option linter.unusedSimpArgs false

theorem yval_at {ys : List Yld} {j : Nat} (h : j < ys.length) : (ys.map Yld.val)[j]? = some (.slice ys[j].A ys[j].l.length ys[j].c) := by
  rw [List.getElem?_map, List.getElem?_eq_getElem h]; rfl
set_option maxRecDepth 100000 in
set_option maxHeartbeats 4000000 in
theorem spoilRow_any (ys : List Yld) (v : Value) (base lo hi : Nat) (w : World) (hr : w.ownsRow base 22 1 v ys.length (ys.map Yld.val)) (hy : YRows lo ys w) (ha : YApart ys) (hl : ∀ y ∈ ys, y.l.length ≤ 1024) (hn : ys.length ≤ 10000000000000) (hlo : lo ≤ w.heap.size)
    (hhi : ∀ y ∈ ys, ∀ k, y.val.ownBlock = some k → k < hi) :
    Calls Tryd.prog 16 #[v] w fun e w' => e = .returned (.tuple #[]) ∧ Spared lo hi w w' := by
  obtain ⟨A, c, rfl⟩ := row_slice hr
  have HR := Lib.hid hr
  have HY := Lib.hid hy
  have HA := Lib.hid ha
  have HL := Lib.hid hl
  have HH := Lib.hid hhi
  clear hr hy ha hl hhi
  go_enter Tryd.func16, Tryd.ntmps16
  go_wp2_with fail
  go_loopw [2] (fun i wr => ∃ j : Nat, j ≤ ys.length ∧ i = .int .i64 j ∧ Hid (Spared lo hi w wr) ∧ Hid (wr.ownsRow base 22 1 (.slice A ys.length c) ys.length (ys.map Yld.val)) ∧ Hid (YRows lo (ys.drop j) wr)) (fun i wr => ys.length - (intOf i).toNat)
  case atStart => exact ⟨0, Nat.zero_le _, rfl, Spared.refl _ _ _, HR.out, by rw [List.drop_zero]; exact HY.out⟩
  case round =>
    obtain ⟨j, hj, rfl, hS, hrow, hE⟩ := hrel
    by_cases hlt : j < ys.length
    · obtain ⟨g, rfl, _, _⟩ := row_form hrow.out (by omega)
      have p0 := row_cell1 hrow.out (yval_at hlt)
      have hmem := List.getElem_mem hlt
      have hd := List.drop_eq_getElem_cons hlt
      have hE2 := hE.out
      rw [hd] at hE2
      have hx := hE2 ys[j] (List.mem_cons_self ..)
      have hpw := HA.out
      have hi1 : (j : Int) < (ys.length : Int) := by omega
      have hi0 : (0 : Int) ≤ (j : Int) := Int.natCast_nonneg _
      have hlj := HL.out _ hmem
      have hws := hS.out.bel.size
      have HHJ := Lib.hid (HH.out _ hmem)
      have HPA := Lib.hid (show ∀ z ∈ ys.drop (j + 1), z.val.ownBlock = none ∨ z.val.ownBlock ≠ (ys[j]).val.ownBlock from fun z hz => by
        have h1 : (ys[j] :: ys.drop (j + 1)).Pairwise fun y z => y.val.ownBlock = none ∨ y.val.ownBlock ≠ z.val.ownBlock := by rw [← hd]; exact hpw.sublist (List.drop_sublist _ _)
        rcases (List.pairwise_cons.1 h1).1 z hz with e | e
        · cases hq : z.val.ownBlock with
          | none => exact .inl rfl
          | some k => right; rw [e]; simp
        · exact .inr fun e' => e e'.symm)
      have HER := Lib.hid (show YRows lo (ys.drop (j + 1)) wr from fun z hz => hE2 z (List.mem_cons_of_mem _ hz))
      have HX := Lib.hid hx
      clear hE2 hd hx hpw hE hmem
      have hval : (ys[j]).val = .slice ys[j].A ys[j].l.length ys[j].c := rfl
      rw [hval] at HHJ HPA
      generalize ys[j].A = Aj at *
      generalize ys[j].c = cj at *
      generalize ys[j].l = lj at *
      go_wp2_with fail
      refine (spoil_any Aj _ cj lo _ _ HX.out (by omega) (by omega)).mono ?_
      rintro e w1 ⟨rfl, hg⟩
      have HS1 := Lib.hid (hS.out.next hlo hg (fun k e => ⟨row_base HX.out k e, HHJ.out k e⟩))
      have HR1 := Lib.hid (World.ownsRow.kept hrow.out hg (rows_ne hrow.out HX.out (by decide)))
      have HE1 := Lib.hid (show YRows lo (ys.drop (j + 1)) w1 from fun z hz => World.ownsRow.kept (HER.out z hz) hg (HPA.out z hz))
      clear hg hS hrow p0
      go_wp2
      go_roundw
      case rel => exact ⟨j + 1, by omega, by go_num, HS1, HR1, HE1⟩
      case measure => simp [intOf]; omega
    · go_wp2
      go_end0
      exact ⟨rfl, hS.out⟩
set_option maxHeartbeats 1000000 in
theorem count3_any (n : Int) (w : World) (hn : -9223372036854775808 ≤ n ∧ n < 9223372036854775808) : Calls Tryd.prog 15 #[.int .i64 n, .int .i64 3] w fun e w' => ∃ m : Nat, m < 3 ∧ e = .returned (.int .i64 m) ∧ w = w' := by
  obtain ⟨m, hm, he⟩ : ∃ m : Nat, m < 3 ∧ (if Int.tmod n 3 < 0 then Int.tmod n 3 + 3 else Int.tmod n 3) = (m : Int) := by
    have ht : Int.tmod n 3 = n % 3 ∨ Int.tmod n 3 = n % 3 - 3 := by
      have := Int.tmod_eq_emod (a := n) (b := 3)
      split at this
      · left; simpa using this
      · right; simpa using this
    have he := Int.emod_lt_of_pos n (show (0 : Int) < 3 by omega)
    have hg := Int.emod_nonneg n (show (3 : Int) ≠ 0 by omega)
    refine ⟨(if Int.tmod n 3 < 0 then Int.tmod n 3 + 3 else Int.tmod n 3).toNat, ?_, ?_⟩ <;> split <;> omega
  by_cases h : Int.tmod n 3 < 0
  · rw [if_pos h] at he
    have d1 : decide (Int.tmod n 3 < 0) = true := decide_eq_true h
    have HE := Lib.hid he
    go_enter Tryd.func15, Tryd.ntmps15
    go_wp2
    go_ret
    exact ⟨m, hm, by first | rfl | (simp [HE.out]), rfl⟩
  · rw [if_neg h] at he
    have d1 : decide (Int.tmod n 3 < 0) = false := decide_eq_false h
    have HE := Lib.hid he
    go_enter Tryd.func15, Tryd.ntmps15
    go_wp2
    go_ret
    exact ⟨m, hm, by first | rfl | (simp [HE.out]), rfl⟩
end Go.Proofs.YtfeaolnklooanaaDoor.Tm
