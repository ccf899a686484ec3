/- UTF-8: the program's 'spelled' and the document's 'utf8' both tell utf8B. -/
import Derived.Test.YtefpolgflimlgaaDoorRows
import Derived.Test.YtefpolgflimlgaaDoorReads
import Derived.Test.YtefpolgflimlgaaDoorUtf
import Derived.Test.YtefpolgflimlgaaDoorShelf
import Derived.Laws.BitsLemmas
import Derived.Lib.OthersKept
import Derived.Deep.LoopGhost
import Derived.WalkSmall
namespace Go.Proofs.YtefpolgflimlgaaDoor.Tm
open Go.RowKit
set_option linter.unusedVariables false
set_option linter.unusedSimpArgs false

theorem iterAt_below {w W : World} {s : ByteArray} (h : Below w.heap.size w W) (p' : Nat) (k : Nat) (hk : w.heap.size ≤ k) : Below w.heap.size w (W.iterAt k s p') :=
  ⟨h.os, h.tape, h.output, by simp [World.iterAt]; exact h.size, fun i hi => by
    rw [← h.block i hi]
    simp [World.iterAt, show k ≠ i by omega]⟩
theorem iterAt_self (w : World) (k : Nat) (s : ByteArray) (pos pos' : Nat) (hk : w.heap[k]? = some (.stringIter s pos)) : (w.iterAt k s pos').heap[k]? = some (.stringIter s pos') := by
  have hlt : k < w.heap.size := (Array.getElem?_eq_some_iff.1 hk).1
  simp [World.iterAt, hlt]
set_option maxHeartbeats 1000000 in
theorem spelled_any (s : ByteArray) (w : World) (hs : s.size ≤ 9223372036854775807) (hT : Lib.Utf8Tabs 1 2 w) :
    Calls Tryd.prog 183 #[.string s] w fun e w' => e = .returned (.bool (utf8B s)) ∧ Below w.heap.size w w' := by
  have HT := Lib.hid hT
  clear hT
  have hi0 : (w.iter s 0).heap[w.heap.size]? = some (.stringIter s 0) := heap_new _ _
  have hB0 : Below w.heap.size w (w.iter s 0) := below_one w _
  go_enter Tryd.func183, Tryd.ntmps183
  go_wp2_with fail
  go_loopw [3] (fun _ wr => ∃ p : Nat, wr.heap[w.heap.size]? = some (.stringIter s p) ∧ Below w.heap.size w wr ∧ Hid (utf8B s = okFrom s p)) (fun _ wr => s.size - wr.iterPos w.heap.size)
  case atStart => exact ⟨0, hi0, hB0, rfl⟩
  case round =>
    obtain ⟨p, hp, hB, hE⟩ := hrel
    by_cases hlt : p < s.size
    · have hn := fun ty => Lib.run_next_any_at (P := Tryd.prog) wr w.heap.size s p ty hp hlt
      have hw := width_pos s p
      have hB2 := iterAt_below (s := s) hB (p + (Utf8.decode s p).2) w.heap.size (Nat.le_refl _)
      have hi2 := iterAt_self wr w.heap.size s p (p + (Utf8.decode s p).2) hp
      by_cases hr : (Utf8.decode s p).1 = 65533
      · have hd : Lib.decodeGo (s.extract p s.size) = Utf8.decode s p := by
          unfold Lib.decodeGo
          rw [if_neg (by simp; omega)]
          exact decode_drop s p hlt
        have hT2 := Lib.hid (Utf8Tabs_below HT.out hB2)
        by_cases hk : (Utf8.decode s p).2 = 1
        · have hF := Lib.hid (hE.out.trans (okFrom_bad hlt (by unfold badAt; rw [hr, hk]; simp)))
          generalize Utf8.decode s p = dk at hn hB2 hr hk hd hi2 hT2
          obtain ⟨d1, d2⟩ := dk
          simp only at hn hB2 hr hk hi2 hT2
          subst hr hk
          have HD := Lib.hid hd
          clear hd hE
          go_wp2_with fail
          refine (Tryd.utf8_DecodeRuneInString _ _ hT2.out).mono ?_
          rintro e w' ⟨rfl, hb⟩
          rw [HD.out]
          go_wp2
          go_ret
          exact ⟨by rw [hF.out]; rfl, below_then hB2 hb⟩
        · have hF := Lib.hid (hE.out.trans (okFrom_next hlt (by unfold badAt; simp [hk])))
          generalize Utf8.decode s p = dk at hn hB2 hr hk hd hi2 hT2 hF hw
          obtain ⟨d1, d2⟩ := dk
          simp only at hn hB2 hr hk hi2 hT2 hF hw
          subst hr
          have hkb : ((d2 : Int) == 1) = false := beq_eq_false_iff_ne.2 (by omega)
          have HD := Lib.hid hd
          clear hd hE
          go_wp2_with fail
          refine (Tryd.utf8_DecodeRuneInString _ _ hT2.out).mono ?_
          rintro e w' ⟨rfl, hb⟩
          rw [HD.out]
          have hi3 : w'.heap[w.heap.size]? = some (.stringIter s (p + d2)) := (hb.block _ (lt_of_block hi2)).trans hi2
          go_wp2
          go_roundw
          case rel => exact ⟨p + d2, hi3, below_then hB2 hb, hF⟩
          case measure => rw [iterPos_of hi3, iterPos_of hp]; omega
      · have hF := Lib.hid (hE.out.trans (okFrom_next hlt (by unfold badAt; simp [hr])))
        generalize Utf8.decode s p = dk at hn hB2 hr hi2 hF hw
        obtain ⟨d1, d2⟩ := dk
        simp only at hn hB2 hr hi2 hF hw
        have hkb : ((d1 : Int) == 65533) = false := beq_eq_false_iff_ne.2 (by omega)
        clear hE
        go_wp2
        go_roundw
        case rel => exact ⟨p + d2, hi2, hB2, hF⟩
        case measure => rw [iterPos_of hi2, iterPos_of hp]; omega
    · have hn := fun ty => Lib.run_next_end_at (P := Tryd.prog) wr w.heap.size s p ty hp hlt
      have hF := Lib.hid (hE.out.trans (okFrom_end hlt))
      go_wp2
      go_ret
      exact ⟨by rw [hF.out]; rfl, hB⟩
end Go.Proofs.YtefpolgflimlgaaDoor.Tm
