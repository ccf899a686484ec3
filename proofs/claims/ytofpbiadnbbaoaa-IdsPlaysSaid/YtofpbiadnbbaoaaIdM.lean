/- layer 13: the walk of IdsNever. -/
import Derived.Test.YtofpbiadnbbaoaaIdJ
import Derived.Test.YtofpbiadnbbaoaaIdL
namespace Go.Proofs.Ytofpbiadnbbaoaa.Ids
open Go.RowKit
set_option linter.unusedVariables false
set_option linter.unusedSimpArgs false

theorem newPids_at (g : Int) (w : World) (h0 : 0 ≤ g) (h1 : g ≤ 17179869183) :
    Calls Try.prog 36 #[.int .i64 g] w fun e w' => ∃ b c, e = .returned (.pointer (some ⟨b, 0, none⟩)) ∧ PidsAt w' b c (fresh g 64) ∧ w.heap.size ≤ b ∧ w.heap.size ≤ c ∧ Below w.heap.size w w' := by
  refine (newPids_yes g w h0 h1).mono ?_
  rintro e w' ⟨rfl, rfl⟩
  exact ⟨_, _, rfl, pids_new w g, by omega, Nat.le_refl _, below_alloc' ((Below.refl _ w).alloc (Nat.le_refl _) _) _⟩
theorem row_slice {w : World} {base n : Nat} {e : TypeId} {size : Nat} {v : Value} {xs : List Value} (h : w.ownsRow base e size v n xs) : ∃ A c, v = .slice A n c := by
  rcases h.2 with ⟨rfl, rfl⟩ | ⟨g, cap, cur, rfl, _⟩
  · exact ⟨none, 0, rfl⟩
  · exact ⟨_, cap, rfl⟩
theorem row_ne {w : World} {base n b c : Nat} {v : Value} {xs : List Value} {l : List (Int × Bool)} (h : w.ownsRow base 2 1 v n xs) (hP : PidsAt w b c l) : v.ownBlock ≠ some c := by
  rcases h.2 with ⟨rfl, rfl⟩ | ⟨g, cap, cur, rfl, _, hg, _⟩
  · simp [Value.ownBlock]
  · intro e
    obtain rfl : g = c := by simpa [Value.ownBlock] using e
    have := hg.symm.trans hP.row
    simp [gensOf] at this
theorem row_ne_top {w : World} {base n b c : Nat} {v : Value} {xs : List Value} {l : List (Int × Bool)} (h : w.ownsRow base 2 1 v n xs) (hP : PidsAt w b c l) : v.ownBlock ≠ some b := by
  rcases h.2 with ⟨rfl, rfl⟩ | ⟨g, cap, cur, rfl, _, hg, _⟩
  · simp [Value.ownBlock]
  · intro e
    obtain rfl : g = b := by simpa [Value.ownBlock] using e
    have := hg.symm.trans hP.top
    simp [rowOf] at this
theorem row_below {w w1 : World} {base n : Nat} {e : TypeId} {size : Nat} {v : Value} {xs : List Value} (h : w.ownsRow base e size v n xs) (hB : Below w.heap.size w w1) : w1.ownsRow base e size v n xs :=
  h.kept (grown_below hB none) (by cases v.ownBlock <;> simp)
/-- An element of a row of numbers. -/
theorem row_cell {w : World} {base n cap : Nat} {A : Option Addr} {ys : List Int} (h : w.ownsRow base 2 1 (.slice A n cap) n (ys.map (Value.int .i64))) (k : Nat) (hk : k < n) :
    ∃ (g : Nat) (hy : k < ys.length), A = some ⟨g, 0, none⟩ ∧ w.cell? ⟨g, k, none⟩ = some (.int .i64 ys[k]) := by
  have hl : ys.length = n := by have := h.1; simpa using this
  rcases h.2 with ⟨h', rfl⟩ | ⟨g, cap', cur, h', _⟩
  · omega
  · obtain ⟨rfl, _⟩ : A = some ⟨g, 0, none⟩ ∧ cap = cap' := by simpa using h'
    refine ⟨g, by omega, rfl, ?_⟩
    rw [h.cellAt k (by omega)]
    simp [show k < ys.length by omega]

theorem row_base {w : World} {base n : Nat} {e : TypeId} {size : Nat} {v : Value} {xs : List Value} (h : w.ownsRow base e size v n xs) (k : Nat) (hk : v.ownBlock = some k) : base ≤ k := by
  rcases h.2 with ⟨rfl, _⟩ | ⟨g, cap, cur, rfl, hb, _⟩
  · simp [Value.ownBlock] at hk
  · have : g = k := by simpa [Value.ownBlock] using hk
    omega
theorem known_end {w W : World} {R : Ending → World → Prop} (h : ∀ w', Below W.heap.size W w' → R (.returned (.bool true)) w') : Calls Try.prog 24 #[] W R :=
  (known_any W).mono fun e w' ⟨he, hB⟩ => he ▸ h w' hB
/-- A script of bytes. -/
def Script (w : World) (a : Option Addr) (len : Nat) : Prop := ∀ i, i < len → ∃ x y, a = some x ∧ w.cell? (x.add i) = some (.int .u8 y) ∧ 0 ≤ y ∧ y ≤ 255

set_option maxHeartbeats 4000000 in
set_option maxRecDepth 100000 in
theorem idsNever_yes (g : Int) (a : Option Addr) (len cap : Nat) (w : World) (hs : Script w a len) (h0 : 0 ≤ g) (h1 : g ≤ 17179869183) :
    Calls Try.prog 8 #[.int .i64 g, .slice a len cap] w fun e w' => e = .returned (.bool true) ∧ Below w.heap.size w w' := by
  have hS := Lib.hid hs
  clear hs
  obtain ⟨i0, hi, hz0, hz1, hz2⟩ := info_parts Try.info2
  go_enter Try.func8, Try.ntmps8
  go_wp2_with fail
  refine (newPids_at g _ h0 h1).mono ?_
  rintro e w1 ⟨b, c, rfl, P1, hb, hc, B1⟩
  go_wp2_with fail
  go_loopw [6, 7] (fun v i wr => ∃ (k : Nat) (told : List Int) (l : List (Int × Bool)), k ≤ 300 ∧ i = .int .i64 k ∧ told.length ≤ k ∧ wr.ownsRow w.heap.size 2 1 v told.length (told.map (Value.int .i64)) ∧ PidsAt wr b c l ∧ PInv l ∧ Hid (∀ t ∈ told, Told l t) ∧ Below w.heap.size w wr) (fun v i wr => 300 - (intOf i).toNat)
  case atStart => exact ⟨0, [], _, by omega, rfl, by simp, World.ownsRow_nil _ _ _ _, P1, pinv_fresh h0 h1, (by intro t ht; simp at ht), B1⟩
  case round =>
    obtain ⟨k, told, l, hk, rfl, htl, hown, hP, hI, hT, hB⟩ := hrel
    clear P1
    by_cases hlt : k < len
    · by_cases h300 : k < 300
      · go_wp2_with fail
        refine (lawAll_any b c 0 l hI _ hP).mono ?_
        rintro e w2 ⟨v8, ys, rfl, hr8, hG, hB8⟩
        have hA : AllOf l ys := by
          rcases hG with ⟨h, _⟩ | ⟨_, h, h'⟩
          · exact h
          · omega
        obtain ⟨A8, c8, rfl⟩ := row_slice hr8
        have hroom := hA.room
        have P2 := hP.below hB8
        have R2 := row_below hown hB8
        have B2 : Below w.heap.size w w2 := hB.trans (hB8.mono hB.size)
        obtain ⟨x, y, hax, hc0, hy0, hy1⟩ := hS.out k hlt
        subst hax
        have hc2 : w2.cell? (x.add k) = some (.int .u8 y) := (B2.cell (World.block_lt_of_cell? w _ hc0)).trans hc0
        have HA := Lib.hid hA
        clear hA hc0 hG hP hown hB
        by_cases h160 : y < 160
        · go_wp2_with fail
          refine (take_any b c l _ P2 hI.pos).mono ?_
          rintro e w3 (⟨k3, hk3, hno, hok, rfl, P3, G3⟩ | ⟨hno, rfl, B3⟩)
          · have R3 := R2.kept G3 (.inr (row_ne R2 P2))
            have B3 : Below w.heap.size w w3 := B2.grown G3 B2.size (fun _ e => by cases e; exact hc)
            have hne : Hid (∀ t ∈ told, t ≠ (l[k3]).1 * 64 + k3 + 1) := fun t ht => (hT.out t ht).ne k3 hk3 hI.len hok
            have hT3 : Hid (∀ t ∈ told ++ [(l[k3]).1 * 64 + k3 + 1], Told (l.set k3 ((l[k3]).1, true)) t) := by
              intro t ht
              rcases List.mem_append.1 ht with h | h
              · exact (hT.out t h).take k3 hk3 hok
              · simp at h; subst h; exact Told.new k3 hk3
            have I3 := hI.take k3 hk3 hok
            clear P2 R2 B2 G3 hno hT
            obtain ⟨A, cp, rfl⟩ := row_slice R3
            generalize (l[k3]).1 * 64 + (k3 : Int) + 1 = X at hne hT3 ⊢
            generalize l.set k3 ((l[k3]).1, true) = l3 at P3 I3 hT3 ⊢
            go_wp2_with fail
            go_loop [11] (fun i => ∃ j : Nat, j ≤ told.length ∧ i = .int .i64 j) (fun i => told.length - (intOf i).toNat)
            case atStart => exact ⟨0, by omega, rfl⟩
            case round =>
              obtain ⟨j, hj, rfl⟩ := hrel
              by_cases hjl : j < told.length
              · obtain ⟨g', hy', rfl, hcell⟩ := row_cell R3 j hjl
                have hne1 : (told[j] == X) = false := beq_eq_false_iff_ne.2 (hne.out _ (List.getElem_mem hy'))
                go_wp2
                go_round
                case rel => exact ⟨j + 1, by omega, by go_num⟩
                case measure => simp [intOf]; omega
              · have hjl' : j = told.length := by omega
                subst hjl'
                have Ra := R3.alloc (.cells #[.int .i64 X] 2)
                go_wp2_with (at_builtin; refine wpList_append_own _ rfl _ _ 52 rfl w.heap.size 2 i0 (.int .i64 0) 1 8 Try.underlying52 hi hz0 hz1 hz2 rfl (by decide) _ _ _ rfl Ra ⟨w3.heap.size, 0, none⟩ 1 1 [.int .i64 X] rfl rfl (cell_one_new _ _ _) (by simp [Value.oneCell']) (by unfold maxLen; omega) (by omega) (by have := B3.size; simp; omega) ?_; intro v' w4 hown4 hgrow4 _)
                go_roundw
                case rel => exact ⟨k + 1, told ++ [X], l3, by omega, by go_num, by simp; omega, by simpa using hown4, (P3.alloc _).kept hgrow4 (row_ne_top R3 P3) (row_ne R3 P3), I3, hT3, (below_alloc' B3 _).grown hgrow4 (below_alloc' B3 _).size (fun q hq => row_base R3 q hq)⟩
                case measure => simp [intOf]; omega
          · go_wp2
            go_roundw
            case rel => exact ⟨k + 1, told, l, by omega, by go_num, by omega, row_below R2 B3, P2.below B3, hI, hT, B2.trans (B3.mono B2.size)⟩
            case measure => simp [intOf]; omega
        · by_cases hy0' : ys.length = 0
          · go_wp2
            go_roundw
            case rel => exact ⟨k + 1, told, l, by omega, by go_num, by omega, R2, P2, hI, hT, B2⟩
            case measure => simp [intOf]; omega
          · have hm0 : 0 ≤ y % (ys.length : Int) := Int.emod_nonneg _ (by omega)
            have hm1 : y % (ys.length : Int) < ys.length := Int.emod_lt_of_pos _ (by omega)
            obtain ⟨q, hq⟩ := Int.eq_ofNat_of_zero_le hm0
            obtain ⟨g8, hy8, hA8, hcell⟩ := row_cell (row_below hr8 (Below.refl _ _)) q (by omega)
            subst hA8
            have hmem := List.getElem_mem hy8
            have hlive := liveP_of hI ((HA.out.mem _).1 hmem)
            have hm2 : y.tmod (ys.length : Int) = (q : Int) := by rw [Int.tmod_eq_emod_of_nonneg hy0]; exact hq
            have hq2 : q < ys.length := hy8
            generalize ys[q] = X at hcell hlive hmem
            clear hm0 hm1 hq
            go_wp2_with fail
            refine (free_any b c X l _ P2 hI.pos hlive).mono ?_
            rintro e w3 ⟨rfl, P3, G3⟩
            have R3 := R2.kept G3 (.inr (row_ne R2 P2))
            have B3 : Below w.heap.size w w3 := B2.grown G3 B2.size (fun _ e => by cases e; exact hc)
            have hdead := Lib.hid (freed_dead hlive)
            have I3 := freed_inv hI hlive
            have hT3 : Hid (∀ t ∈ told, Told (l.set ((X - 1) % 64).toNat ((X - 1) / 64 + 1, false)) t) := fun t ht => freed_told hlive (hT.out t ht)
            generalize l.set ((X - 1) % 64).toNat ((X - 1) / 64 + 1, false) = l3 at P3 hdead I3 hT3
            clear P2 R2 B2 G3 hT hr8 hB8 hcell hlive
            go_wp2_with fail
            refine (live_any b c X l3 _ P3).mono ?_
            rintro e w' ⟨rfl, rfl⟩
            rw [hdead.out]
            go_wp2
            go_roundw
            case rel => exact ⟨k + 1, told, l3, by omega, by go_num, by omega, R3, P3, I3, hT3, B3⟩
            case measure => simp [intOf]; omega
      · go_wp2_with fail
        refine (known_any _).mono ?_
        rintro e w' ⟨rfl, hB2⟩
        go_wp2
        go_ret
        exact ⟨rfl, hB.trans (hB2.mono hB.size)⟩
    · go_wp2_with fail
      refine (known_any _).mono ?_
      rintro e w' ⟨rfl, hB2⟩
      go_wp2
      go_ret
      exact ⟨rfl, hB.trans (hB2.mono hB.size)⟩

set_option maxHeartbeats 400000 in
theorem idsNever_no (g : Int) (a : Option Addr) (len cap : Nat) (w : World) (h : g < 0 ∨ 17179869183 < g) :
    Calls Try.prog 8 #[.int .i64 g, .slice a len cap] w fun e w' => e = .returned (.bool true) ∧ Below w.heap.size w w' := by
  have h' := Lib.hid h
  by_cases h0 : g < 0 <;> by_cases h1 : 17179869183 < g
  all_goals first | (exfalso; omega) | skip
  all_goals
    clear h
    go_enter Try.func8, Try.ntmps8
    go_wp2_with fail
    refine (newPids_no g _ h'.out).mono ?_
    rintro e w' ⟨rfl, rfl⟩
    go_wp2_with fail
    refine (known_any _).mono ?_
    rintro e w' ⟨rfl, hB⟩
    go_wp2
    go_ret
    exact ⟨rfl, hB⟩
theorem idsNever_any (g : Int) (a : Option Addr) (len cap : Nat) (w : World) (hs : Script w a len) :
    Calls Try.prog 8 #[.int .i64 g, .slice a len cap] w fun e w' => e = .returned (.bool true) ∧ Below w.heap.size w w' := by
  by_cases h : g < 0 ∨ 17179869183 < g
  · exact idsNever_no g a len cap w h
  · exact idsNever_yes g a len cap w hs (by omega) (by omega)
theorem script_of {w : World} {a : Option Addr} {len cap : Nat} {zs : List Int} (h : (a = none ∧ len = 0 ∧ cap = 0 ∧ zs = []) ∨
    ∃ x, a = some x ∧ len ≤ cap ∧ cap ≤ maxLen ∧ zs.length = cap ∧ (∀ i, i < zs.length → w.cell? (x.add i) = some (.int .u8 (zs.getD i 0))) ∧ ∀ n ∈ zs, (Lit.int .u8 n).wf = true) : Script w a len := by
  intro i hi
  rcases h with ⟨_, h, _⟩ | ⟨x, hx, hl, _, hz, hc, hw⟩
  · omega
  · have hwi := hw (zs.getD i 0) (by rw [List.getD, List.getElem?_eq_getElem (show i < zs.length by omega)]; exact List.getElem_mem _)
    refine ⟨x, _, hx, hc i (by omega), ?_⟩
    simp [Lit.wf, IntKind.min, IntKind.max, IntKind.signed, IntKind.bits] at hwi
    exact hwi
end Go.Proofs.Ytofpbiadnbbaoaa.Ids
