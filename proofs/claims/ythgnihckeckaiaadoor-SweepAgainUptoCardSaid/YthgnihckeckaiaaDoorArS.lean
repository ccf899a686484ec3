/- The arena's readers: seen. -/
import Derived.Test.YthgnihckeckaiaaDoorArC
import Derived.Test.YthgnihckeckaiaaDoorArQ
import Derived.BigRegion
namespace Go.Proofs.YthgnihckeckaiaaDoor.Tm
open Go.RowKit
set_option linter.unusedVariables false
set_option linter.unusedSimpArgs false

def zeroC : CellD := ⟨0, 0, ⟨#[]⟩⟩
/-- What kind of answer seen gives. -/
def IsSeen (w' : World) (O : Nat → Prop) (s : Option (CellD × List Int)) (e : Ending) : Prop := match s with
  | some (c, p) => ∃ A cap, e = .returned (.tuple #[c.agg, .slice A p.length cap, .int .i64 0]) ∧ p.length ≤ cap ∧ WReads w' A p ∧ ∀ b o, A = some ⟨b, o, none⟩ → O b
  | none => e = .returned (.tuple #[zeroC.agg, .slice none 0 0, .int .i64 31])
theorem findA_neg {l : List ObjA} {x : Int} (h : findA l x = some (-1)) : kdW x = 1 ∨ kdW x = 2 := by
  unfold findA at h
  split at h
  · assumption
  · split at h
    · split at h
      · split at h
        · simp at h
        · cases h
      · cases h
    · cases h
theorem loc3 {w w1 : World} {g : Nat} {v0 v1 v2 : Value} {t : TypeId} (h : w.heap[g]? = some (.cells #[v0, v1, v2] t (0, 0))) (hB : Below w.heap.size w w1) :
    w1.cell? ⟨g, 0, none⟩ = some v0 ∧ w1.cell? ⟨g, 1, none⟩ = some v1 ∧ w1.cell? ⟨g, 2, none⟩ = some v2 ∧ w1.frozen? ⟨g, 0, none⟩ = false ∧ w1.frozen? ⟨g, 1, none⟩ = false ∧ w1.frozen? ⟨g, 2, none⟩ = false := by
  have hb := (hB.block g (lt_of_block h)).trans h
  refine ⟨?_, ?_, ?_, ?_, ?_, ?_⟩ <;> simp [World.cell?, World.frozen?, hb]
set_option maxHeartbeats 1000000 in
theorem seen_any (w : World) (O : Nat → Prop) (ba room : Nat) (l : List ObjA) (x : Int) (h0 : 0 ≤ x) (h1 : x < 18446744073709551616) (h : ArAt w O ba room l) :
    Calls Tryd.prog 73 #[.pointer (some ⟨ba, 0, none⟩), .int .u64 x] w fun e w' => IsSeen w' O (seenA l x) e ∧ Below w.heap.size w w' := by
  have hB0 := below_one w (.cells #[.int .i64 0, .int .i64 0, .string ⟨#[]⟩] 40)
  have hA0 := h.below hB0
  have hfind := find_any _ O ba room l x h0 h1 hA0
  cases hf : findA l x with
  | none =>
    rw [hf] at hfind
    have H := Lib.hid (show seenA l x = none by unfold seenA; rw [hf])
    clear hf h hA0
    go_enter Tryd.func73, Tryd.ntmps73
    go_wp2_with fail
    refine hfind.mono ?_
    rintro e w1 ⟨⟨k, rfl⟩, hb⟩
    obtain ⟨d0, d1, d2, f0, f1, f2⟩ := loc3 (heap_new w _) hb
    have hB := below_then hB0 hb
    go_wp2
    refine bodyPost_ret (v := .tuple #[zeroC.agg, .slice none 0 0, .int .i64 31]) (by simp [results, Tryd.results73, go_sem, d0, d1, d2, zeroC, CellD.agg]) rfl ⟨?_, ?_⟩
    · rw [H.out]; rfl
    · exact ((hB.setCell (Nat.le_refl _) _).setCell (Nat.le_refl _) _).setCell (Nat.le_refl _) _
  | some k =>
    rw [hf] at hfind
    have hk := findA_lt hf
    by_cases hn : k < 0
    · have H := Lib.hid (show seenA l x = some (cellW x, []) by unfold seenA; rw [hf]; simp only [if_pos hn])
      obtain rfl : k = -1 := by omega
      have hkd := findA_neg hf
      clear hf h hA0 hn hk
      by_cases h2 : x = 2
      · subst h2
        clear hkd
        go_enter Tryd.func73, Tryd.ntmps73
        go_wp2_with fail
        refine hfind.mono ?_
        rintro e w1 ⟨he, hb⟩
        obtain rfl : e = _ := he
        obtain ⟨d0, d1, d2, f0, f1, f2⟩ := loc3 (heap_new w _) hb
        have hB := below_then hB0 hb
        go_wp2
        refine bodyPost_ret (v := .tuple #[(⟨6, 0, ⟨#[]⟩⟩ : CellD).agg, .slice none 0 0, .int .i64 0]) (by simp [results, Tryd.results73, go_sem, d0, d1, d2, zeroC, CellD.agg]) rfl ⟨?_, ?_⟩
        · rw [H.out]
          exact ⟨none, 0, by simp [cellW], by simp, WReads.nil _ _, fun b o e => by cases e⟩
        · exact ((hB.setCell (Nat.le_refl _) _).setCell (Nat.le_refl _) _).setCell (Nat.le_refl _) _
      · have hk1 : kdW x = 1 := by
          rcases hkd with e | e
          · exact e
          · exfalso; unfold kdW at e; repeat' split at e
            all_goals omega
        have hb2 : (x == 2) = false := beq_eq_false_iff_ne.2 h2
        have hc : cellW x = ⟨1, valW x, ⟨#[]⟩⟩ := by unfold cellW; rw [if_neg h2]
        rw [hc] at H
        clear hkd h2 hc
        go_enter Tryd.func73, Tryd.ntmps73
        go_wp2_with fail
        refine hfind.mono ?_
        rintro e w1 ⟨he, hb⟩
        obtain rfl : e = _ := he
        obtain ⟨d0, d1, d2, f0, f1, f2⟩ := loc3 (heap_new w _) hb
        have hB := below_then hB0 hb
        go_wp2_with fail
        refine (wvalue_any x _ h0 h1 hk1).mono ?_
        rintro e w2 ⟨rfl, rfl⟩
        go_wp2
        refine bodyPost_ret (v := .tuple #[(⟨1, valW x, ⟨#[]⟩⟩ : CellD).agg, .slice none 0 0, .int .i64 0]) (by simp [results, Tryd.results73, go_sem, d0, d1, d2, zeroC, CellD.agg]) rfl ⟨?_, ?_⟩
        · rw [H.out]
          exact ⟨none, 0, rfl, by simp, WReads.nil _ _, fun b o e => by cases e⟩
        · exact ((hB.setCell (Nat.le_refl _) _).setCell (Nat.le_refl _) _).setCell (Nat.le_refl _) _
    · obtain ⟨j, rfl⟩ : ∃ j : Nat, k = (j : Int) := ⟨k.toNat, by omega⟩
      have hj : j < l.length := by omega
      have H := Lib.hid (show seenA l x = some ((l[j]).cell, (l[j]).parts) by unfold seenA; rw [hf]; simp only [if_neg hn]; simp [hj])
      clear hA0
      obtain ⟨bm, vO, vW, vs, hR0⟩ := h
      have hR := hR0.same hB0.size fun k hk => hB0.block k (hR0.lim k hk).2
      have hlen := hR.wf.len
      have hlim := hR.used_le
      have hlim2 := hR.room_le
      have hvj : j < vs.length := by rw [hR.vl]; exact hj
      obtain ⟨A, c, hpv, hpc, hpr, hpo⟩ := hR0.ps j hj hvj
      obtain ⟨g, cap, rfl, o0, o1, o2, o3, o4⟩ := hR.objs j hj
      rw [show vs[j]? = some vs[j] by simp [hvj], hpv] at o3
      clear hf hk o4
      go_enter Tryd.func73, Tryd.ntmps73
      go_wp2_with fail
      refine hfind.mono ?_
      rintro e w1 ⟨he, hb⟩
      obtain rfl : e = _ := he
      obtain ⟨d0, d1, d2, f0, f1, f2⟩ := loc3 (heap_new w _) hb
      obtain ⟨c0, c1, c2, c3, c4⟩ := hR.cells
      have c3' := cell_below hb c3
      have p0 := cell_below hb o0
      have p1 := cell_below hb o1
      have p2 := cell_below hb o2
      have p3 := cell_below hb o3
      have hB := below_then hB0 hb
      clear c0 c1 c2 c3 c4 o0 o1 o2 o3 hR hR0 hfind
      go_wp2
      go_region
      go_wp2
      refine bodyPost_ret (v := .tuple #[(l[j]).cell.agg, .slice A (l[j]).parts.length c, .int .i64 0]) (by simp [results, Tryd.results73, go_sem, d0, d1, d2, CellD.agg]) rfl ?_
      have hBf := (((hB.setCell (p := ⟨w.heap.size, 0, none⟩) (Nat.le_refl _) (.int .i64 (l[j]).cell.kind)).setCell (p := ⟨w.heap.size, 1, none⟩) (Nat.le_refl _) (.int .i64 (l[j]).cell.n)).setCell (p := ⟨w.heap.size, 2, none⟩) (Nat.le_refl _) (.string (l[j]).cell.text)).drew
      refine ⟨?_, hBf⟩
      rw [H.out]
      exact ⟨A, c, rfl, hpc, hpr.below hBf, fun b o e => (hpo b o e).1⟩
end Go.Proofs.YthgnihckeckaiaaDoor.Tm
