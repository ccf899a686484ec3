/- The law WordRights: whatever the cells and the place, it returns true. -/
import Derived.Test.YtofpbiadnbbaoaaDoorRight
import Derived.Test.YtofpbiadnbbaoaaDoorEnd
import Derived.Test.YtofpbiadnbbaoaaDoorLent
import Derived.Test.YtofpbiadnbbaoaaDoorKnown
import Derived.Deep.RegionHeld3
namespace Go.Proofs.YtofpbiadnbbaoaaDoor.Tm
open Go.RowKit
set_option linter.unusedVariables false
set_option linter.unusedSimpArgs false

set_option maxHeartbeats 4000000 in
theorem wordRights_any (l r : List CellD) (A B : Option Addr) (cap cap2 : Nat) (n : Int) (w : World) (hr : Reads w A l) (hr2 : Reads w B r) (hs : ∀ j (h : j < l.length), (l[j]).text.size ≤ 9223372036854775807)
    (hl : (l.length + 1) * 32 ≤ 140737488355328) (hl' : r.length ≤ 1000000000000000) (hn : -9223372036854775808 ≤ n ∧ n < 9223372036854775808) (hT : Lib.Utf8Tabs 0 1 w) :
    Calls Tryd.prog 4 #[.slice A l.length cap, .int .i64 n, .slice B r.length cap2] w fun e w' => e = .returned (.bool true) ∧ Below w.heap.size w w' := by
  have HR := Lib.hid hr
  have HR2 := Lib.hid hr2
  have HS := Lib.hid hs
  have HT := Lib.hid hT
  clear hr hr2 hs hT
  have hl2 : l.length ≤ 1000000000000000 := by omega
  go_enter Tryd.func4, Tryd.ntmps4
  go_wp2_with fail
  refine (lent_any l A cap _ HR.out (by omega)).mono ?_
  rintro e w1 ⟨A', cap', rfl, hL, hB1⟩
  have HL := Lib.hid hL
  clear hL
  go_wp2_with fail
  refine (wright_any l A' cap' _ HL.out.reads HS.out hl2 (Utf8Tabs_below HT.out hB1)).mono ?_
  rintro e w2 ⟨rfl, hb2⟩
  go_wp2_with fail
  have hB2 := below_then hB1 hb2
  refine (rright_any l A cap _ (HR.out.below hB2) HS.out hl2).mono ?_
  rintro e w3 ⟨rfl, hb3⟩
  generalize (rightE l).1 = E1
  generalize (rightE l).2 = E2
  have hC3 := below_then hb2 hb3
  have hB3 := below_then hB2 hb3
  clear hb2 hb3 hB2
  go_wp2_with fail
  refine (wend_any l A' cap' n _ ((HL.out.below hC3).reads) hl2 hn).mono ?_
  rintro e w4 ⟨rfl, hb4⟩
  have hC4 := below_then hC3 hb4
  have hB4 := below_then hB3 hb4
  clear hb4 hC3 hB3
  go_wp2_with fail
  refine (rend_any l A cap n _ (HR.out.below hB4) hl2 hn).mono ?_
  rintro e w5 ⟨rfl, hb5⟩
  generalize (endE l n).1 = E3
  generalize (endE l n).2 = E4
  have hC5 := below_then hC4 hb5
  have hB5 := below_then hB4 hb5
  clear hb5 hC4 hB4
  go_wp2_with fail
  refine (wsame_any A' B cap' cap2 l r _ ((HL.out.below hC5).reads) (HR2.out.below hB5) hl2 (by omega)).mono ?_
  rintro e w6 ⟨rfl, hb6⟩
  have hC6 := below_then hC5 hb6
  have hB6 := below_then hB5 hb6
  clear hb6 hC5 hB5
  go_wp2_with fail
  refine (rsame_any A B cap cap2 l r _ (HR.out.below hB6) (HR2.out.below hB6) hl2 (by omega)).mono ?_
  rintro e w7 ⟨rfl, hb7⟩
  generalize decide (l = r) = E5
  have hC7 := below_then hC6 hb7
  have hB7 := below_then hB6 hb7
  clear hb7 hC6 hB6
  go_wp2_with fail
  refine (wsame_any A' A cap' cap l l _ ((HL.out.below hC7).reads) (HR.out.below hB7) hl2 hl2).mono ?_
  rintro e w8 ⟨rfl, hb8⟩
  rw [show decide (l = l) = true by simp]
  have hC8 := below_then hC7 hb8
  have hB8 := below_then hB7 hb8
  clear hb8 hC7 hB7
  go_wp2_with fail
  go_loopw [16] (fun i wr => ∃ j : Nat, j ≤ l.length ∧ i = .int .i64 j ∧ Below w1.heap.size w1 wr) (fun i wr => l.length - (intOf i).toNat)
  case atStart => exact ⟨0, by omega, rfl, hC8⟩
  case round =>
    obtain ⟨j, hj, rfl, hC⟩ := hrel
    by_cases hlt : j < l.length
    · obtain ⟨b, o, hA, hcell⟩ := HR.out j hlt
      subst hA
      obtain ⟨c0, c1, c2⟩ := hcell.below (hB1.trans (hC.mono hB1.size))
      have hsz := HS.out j hlt
      have hi0 : (0 : Int) ≤ (j : Int) := Int.natCast_nonneg _
      have hi1 : (j : Int) < (l.length : Int) := by omega
      have hBr := hB1.trans (hC.mono hB1.size)
      generalize l[j] = x at c0 c1 c2 hsz
      clear hcell hC8 hB8
      go_wp2_with fail
      go_region_held3 (fun w' => w'.cell? ⟨b, o + j * 3, none⟩ = some (.int .i64 x.kind) ∧ w'.cell? ⟨b, o + j * 3 + 1, none⟩ = some (.int .i64 x.n) ∧ w'.cell? ⟨b, o + j * 3 + 2, none⟩ = some (.string x.text) ∧ Below wr.heap.size wr w')
        (first
          | exact ⟨c0, c1, c2, (Below.refl _ _).drew⟩
          | exact (fun hB' => ⟨cell_below hB' c0, cell_below hB' c1, cell_below hB' c2, hB'⟩) (below_then (by assumption) hbc)
          | exact (fun hB' => ⟨cell_below hB' c0, cell_below hB' c1, cell_below hB' c2, hB'⟩) (below_then (Below.drew (by assumption)) hbc)
          | go_keep)
        (first
          | (go_at_call 14; go_split_ands; refine (wcell_any x _ hsz (Utf8Tabs_below (Utf8Tabs_below HT.out hBr) (by assumption))).mono ?_; rintro e wc ⟨rfl, hbc⟩)
          | (go_at_call 9; go_split_ands; refine (rcell_any x _ hsz).mono ?_; rintro e wc ⟨rfl, hbc⟩))
      all_goals go_wp2
      all_goals go_split_ands
      all_goals go_roundw
      all_goals first
        | (case rel => exact ⟨j + 1, by omega, by go_num, below_then hC (by assumption)⟩)
        | skip
      all_goals (simp [intOf]; omega)
    · have hBr := hB1.trans (hC.mono hB1.size)
      go_wp2_with fail
      refine (kept_any l A' A _ cap' cap _ (HL.out.below hC) (HR.out.below hBr) (by omega)).mono ?_
      rintro e w9 ⟨rfl, hb9⟩
      go_wp2_with fail
      refine (known_any _).mono ?_
      rintro e w10 ⟨rfl, rfl⟩
      go_wp2
      go_ret
      exact ⟨rfl, below_then hBr hb9⟩
theorem wordRights_row (A : Option Addr) (cap : Nat) (l : List CellD) (n : Int) (B : Option Addr) (cap2 : Nat) (r : List CellD) (w : World) (hT : Lib.Utf8Tabs 0 1 w) (hcap : l.length ≤ cap) (hr : Reads w A l) (hs : ∀ j (h : j < l.length), (l[j]).text.size ≤ 9223372036854775807)
    (hy : l.length * 32 ≤ 140737488351232) (hn : (Lit.int .i64 n).wf = true) (hcap2 : r.length ≤ cap2) (hr2 : Reads w B r) (hs2 : ∀ j (h : j < r.length), (r[j]).text.size ≤ 9223372036854775807) (hy2 : r.length * 32 ≤ 140737488351232) :
    Calls Tryd.prog 4 #[.slice A l.length cap, .int .i64 n, .slice B r.length cap2] w fun e w' => e = .returned (.bool true) ∧ Below w.heap.size w w' :=
  wordRights_any l r A B cap cap2 n w hr hr2 hs (by omega) (by omega) (by simp [Lit.wf, IntKind.min, IntKind.max] at hn; simp [IntKind.signed, IntKind.bits] at hn; omega) hT
end Go.Proofs.YtofpbiadnbbaoaaDoor.Tm
