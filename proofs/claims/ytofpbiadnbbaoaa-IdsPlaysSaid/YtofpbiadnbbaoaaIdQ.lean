/- layer 13: Copy; same. -/
import Derived.Test.YtofpbiadnbbaoaaIdP
import Derived.RegionTactic
import Derived.Laws.CopyOwn
import Derived.Deep.QuietTactic
import Derived.BigQuiet
namespace Go.Proofs.Ytofpbiadnbbaoaa.Ids
open Go.RowKit
set_option linter.unusedVariables false
set_option linter.unusedSimpArgs false

/-- copy of whole elements of any size. -/
theorem run_copy_rows {P : Program} (w : World) (dT sT ty elem : TypeId) (size n : Nat) (g : Nat) (dLen dCap : Nat) (a : Addr) (sLen sCap : Nat) (cur : Array Value) (t : TypeId) (cs : List Value)
    (hu : P.underlying dT = some (.slice elem)) (hs : (P.info? elem).map (·.size) = some size)
    (hg : w.heap[g]? = some (.cells cur t (0, 0))) (hn : Nat.min sLen dLen = n) (hl : cs.length = n * size)
    (hsrc : ∀ j v, cs[j]? = some v → w.cell? (a.add j) = some v) (hfit : cs.length ≤ cur.size) (h1 : ∀ v ∈ cs, v.oneCell' = true) :
    (Builtin.copy_ #[dT, sT] ty #[.slice (some ⟨g, 0, none⟩) dLen dCap, .slice (some a) sLen sCap]).run P w =
      .ok (goInt n) (w.setRow g (cs ++ cur.toList.drop cs.length).toArray) := by
  have hl' := run_firstCells_some (P := P) (w := w) size n a sLen sCap cs hl hsrc
  have hst := run_storeCells_at P g 0 t cs 0 cur w hg (by simpa using hfit) h1
  simp only [Nat.add_zero, Nat.zero_add, List.take_zero, List.nil_append] at hst
  cases hq : P.info? elem with
  | none => simp [hq] at hs
  | some i =>
    have hi : i.size = size := by simpa [hq] using hs
    simp [Builtin.copy_, run_underlying hu, Builtin.lenOf, sizeOf, typeInfo, hq, hi, hn, hl', hst]
theorem plc_one (l : List (Int × Bool)) : ∀ v ∈ (plc l).toList, v.oneCell' = true := by
  intro v hv
  simp only [plc, List.mem_flatMap] at hv
  obtain ⟨p, _, hv⟩ := hv
  simp at hv
  rcases hv with rfl | rfl <;> rfl
theorem setRow_kept {W : World} {g k : Nat} {cs : Array Value} (h : k ≠ g) : (W.setRow g cs).heap[k]? = W.heap[k]? := setRow_other W g k cs h

set_option maxHeartbeats 1000000 in
set_option maxRecDepth 100000 in
theorem copy_any (b c : Nat) (l : List (Int × Bool)) (w : World) (h : PidsAt w b c l) :
    Calls Try.prog 42 #[.pointer (some ⟨b, 0, none⟩)] w fun e w' => ∃ b' c', e = .returned (.pointer (some ⟨b', 0, none⟩)) ∧ PidsAt w' b' c' l ∧ w.heap.size ≤ b' ∧ w.heap.size ≤ c' ∧ Below w.heap.size w w' := by
  obtain ⟨i0, hi, hz0, hz1, hz2⟩ := info_parts Try.info72
  have hm := run_make (P := Try.prog) w 68 72 i0 _ Try.underlying68 hi hz0 .i64 .i64 64 64 (by omega) (by omega) (by rw [hz2]; omega) (by omega)
  rw [hz1] at hm
  have hmm : madeCells (Value.agg #[.int .i64 0, .bool false]).cells ((64 : Int).toNat * 2) = plc (fresh 0 0) := made_fresh 0
  rw [hmm] at hm
  clear hmm
  have hsz : (plc l).size = 128 := by rw [plc_size, h.len]
  have hsz0 : (plc (fresh 0 0)).size = 128 := by rw [plc_size, fresh_length 0 0 (by omega)]
  have h1 : PidsAt ((w.alloc (.cells (plc (fresh 0 0)) 72)).alloc (.cells #[.slice (some ⟨w.heap.size, 0, none⟩) 64 64] 70)) b c l := (h.alloc _).alloc _
  have ct := h.cell
  have ct1 := h1.cell
  have cn : ((w.alloc (.cells (plc (fresh 0 0)) 72)).alloc (.cells #[.slice (some ⟨w.heap.size, 0, none⟩) 64 64] 70)).heap[w.heap.size]? = some (.cells (plc (fresh 0 0)) 72 (0, 0)) := by
    rw [Below.heap_alloc _ _ _ (by simp)]; exact heap_new _ _
  have hcp := run_copy_rows (P := Try.prog) ((w.alloc (.cells (plc (fresh 0 0)) 72)).alloc (.cells #[.slice (some ⟨w.heap.size, 0, none⟩) 64 64] 70)).drew 68 68 3 72 2 64 w.heap.size 64 64 ⟨c, 0, none⟩ 64 64 (plc (fresh 0 0)) 72 (plc l).toList Try.underlying68 (by rw [hi]; simp [hz1])
    cn rfl (by simp [hsz]) (fun j v hj => by
      have e : ((⟨c, 0, none⟩ : Addr).add j) = ⟨c, j, none⟩ := by unfold Addr.add; split <;> simp_all
      rw [e]
      have hr := h1.row
      show World.cell? (((w.alloc (.cells (plc (fresh 0 0)) 72)).alloc (.cells #[.slice (some ⟨w.heap.size, 0, none⟩) 64 64] 70))) ⟨c, j, none⟩ = some v
      simp only [World.cell?, hr, gensOf]
      simpa using hj) (by simp [hsz, hsz0]) (plc_one l)
  have hd : (plc (fresh 0 0)).toList.drop (plc l).toList.length = [] := List.drop_eq_nil_of_le (by simp [hsz, hsz0])
  rw [hd, List.append_nil, Array.toArray_toList] at hcp
  have hlb := h.ltb
  have hlc := h.ltc
  have HCN := Lib.hid (show ((w.alloc (.cells (plc (fresh 0 0)) 72)).alloc (.cells #[.slice (some ⟨w.heap.size, 0, none⟩) 64 64] 70)).drew.heap[w.heap.size]? = some (.cells (plc (fresh 0 0)) 72 (0, 0)) from cn)
  clear hd hz0 hz1 hz2 hi cn hsz hsz0
  go_enter Try.func42, Try.ntmps42
  go_wp2
  go_region
  go_wp2
  go_ret
  have hB1 : Below w.heap.size w ((w.alloc (.cells (plc (fresh 0 0)) 72)).alloc (.cells #[.slice (some ⟨w.heap.size, 0, none⟩) 64 64] 70)).drew := (below_alloc' ((Below.refl _ w).alloc (Nat.le_refl _) _) _).drew
  refine ⟨w.heap.size + 1, w.heap.size, rfl, ⟨?_, ?_, h.len⟩, by omega, Nat.le_refl _, below_setRow hB1 (Nat.le_refl _) _⟩
  · rw [setRow_kept (by omega)]
    have := heap_new (w.alloc (.cells (plc (fresh 0 0)) 72)) (.cells #[.slice (some ⟨w.heap.size, 0, none⟩) 64 64] 70)
    rwa [World.size_alloc] at this
  · exact setRow_heap _ _ _ _ _ _ HCN.out

/-- Two rows of numbers: are they alike? -/
theorem same_any (A B : Option Addr) (c1 c2 : Nat) (xs ys : List Int) (w : World) (hx : ∀ j (h : j < xs.length), ∃ g o, A = some ⟨g, o, none⟩ ∧ w.cell? ⟨g, o + j, none⟩ = some (.int .i64 xs[j]))
    (hy : ∀ j (h : j < ys.length), ∃ g o, B = some ⟨g, o, none⟩ ∧ w.cell? ⟨g, o + j, none⟩ = some (.int .i64 ys[j])) (hm : xs.length ≤ 1000000) (hm2 : ys.length ≤ 1000000) :
    Calls Try.prog 46 #[.slice A xs.length c1, .slice B ys.length c2] w fun e w' => e = .returned (.bool (xs == ys)) ∧ ∃ n, w' = w.drewN n := by
  by_cases hl : xs.length = ys.length
  · have hb : ((xs.length : Int) != (ys.length : Int)) = false := by rw [bne_eq_false_iff_eq]; omega
    have HX := Lib.hid hx
    have HY := Lib.hid hy
    have HL := Lib.hid hl
    have hle1 : xs.length ≤ ys.length := by omega
    have hle2 : ys.length ≤ xs.length := by omega
    clear hx hy hl
    go_enter Try.func46, Try.ntmps46
    go_wp2_with fail
    go_loopw [5] (fun i wr => ∃ k nq : Nat, k ≤ xs.length ∧ i = .int .i64 k ∧ wr = w.drewN nq ∧ Hid (∀ j (h1 : j < xs.length) (h2 : j < ys.length), j < k → xs[j] = ys[j])) (fun i wr => xs.length - (intOf i).toNat)
    case atStart => exact ⟨0, 0, by omega, rfl, rfl, fun j _ _ h => absurd h (Nat.not_lt_zero j)⟩
    case round =>
      obtain ⟨k, nq, hk, rfl, rfl, hsame⟩ := hrel
      by_cases hlt : k < xs.length
      · have hlt2 : k < ys.length := by omega
        obtain ⟨g1, o1, hA, c1'⟩ := HX.out k hlt
        obtain ⟨g2, o2, hB, c2'⟩ := HY.out k hlt2
        subst hA hB
        have d1 := c1'
        have d2 := c2'
        have hi1 : (k : Int) < (xs.length : Int) := by omega
        have hi2 : (k : Int) < (ys.length : Int) := by omega
        clear c1' c2'
        by_cases he : xs[k] = ys[k]
        · have HE := Lib.hid he
          rw [he] at d1
          clear he
          go_wp2
          go_quiet (fail)
          go_wp2
          go_roundw
          case rel => exact ⟨k + 1, _, by omega, by go_num, rfl, fun j h1 h2 h3 => by
            rcases Nat.lt_succ_iff_lt_or_eq.1 h3 with e | rfl
            · exact hsame.out j h1 h2 e
            · exact HE.out⟩
          case measure => simp [intOf]; omega
        · have hne : (xs == ys) = false := by
            rw [beq_eq_false_iff_ne]
            intro e
            exact he (by simp [e])
          have HN := Lib.hid hne
          have hbk : (xs[k] != ys[k]) = true := by rw [bne_iff_ne]; exact he
          generalize xs[k] = x at d1 he hbk
          generalize ys[k] = y at d2 he hbk
          clear hne
          go_wp2
          go_quiet (fail)
          go_wp2
          go_ret
          exact ⟨by rw [HN.out]; rfl, _, by first | rfl | exact World.drewN_drewN ..⟩
      · have hall : (xs == ys) = true := by
          rw [beq_iff_eq]
          exact List.ext_getElem HL.out (fun j h1 h2 => hsame.out j h1 h2 (by omega))
        have HN := Lib.hid hall
        clear hall
        go_wp2
        go_ret
        exact ⟨by rw [HN.out]; rfl, nq, rfl⟩
  · have hne : (xs == ys) = false := by
      rw [beq_eq_false_iff_ne]; intro e; exact hl (by rw [e])
    have hb : ((xs.length : Int) != (ys.length : Int)) = true := by rw [bne_iff_ne]; omega
    have HN := Lib.hid hne
    clear hne
    go_enter Try.func46, Try.ntmps46
    go_wp2
    go_ret
    exact ⟨by rw [HN.out]; rfl, 0, rfl⟩
end Go.Proofs.Ytofpbiadnbbaoaa.Ids
