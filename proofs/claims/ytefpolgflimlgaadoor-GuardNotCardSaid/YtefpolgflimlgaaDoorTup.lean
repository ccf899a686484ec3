/- Layer 5: Int, Atom, Bin, Tuple, Cons, List: what each answers. -/
import Derived.Test.YtefpolgflimlgaaDoorOrd
namespace Go.Proofs.YtefpolgflimlgaaDoor.Tm
open Go.RowKit
set_option linter.unusedVariables false
set_option linter.unusedSimpArgs false

def noText : ByteArray := ⟨#[]⟩
def intC (n : Int) : CellD := ⟨1, n, noText⟩
def atomC (s : ByteArray) : CellD := ⟨2, 0, s⟩
def binC (s : ByteArray) : CellD := ⟨8, 0, s⟩
def tupC (n : Int) : CellD := ⟨5, n, noText⟩
def nilC : CellD := ⟨6, 0, noText⟩
def consC : CellD := ⟨7, 0, noText⟩
theorem row_one {w : World} {g base : Nat} {t : TypeId} {x y z : Value} (hb : base ≤ g) (h : w.heap[g]? = some (.cells #[x, y, z] t (0, 0))) : w.ownsRow base t 3 (.slice (some ⟨g, 0, none⟩) 1 1) 1 [x, y, z] :=
  ⟨rfl, .inr ⟨g, 1, #[x, y, z], rfl, hb, h, Nat.le_refl _, by unfold maxLen; omega, rfl, rfl⟩⟩
theorem int_any (n : Int) (w : World) : Calls Tryd.prog 27 #[.int .i64 n] w (IsTerm w [intC n]) := by
  go_enter Tryd.func27, Tryd.ntmps27
  go_wp2
  go_ret
  exact ⟨_, 1, rfl, row_one (Nat.le_refl _) (heap_new _ _), below_one _ _⟩
theorem atom_any (s : ByteArray) (w : World) : Calls Tryd.prog 28 #[.string s] w (IsTerm w [atomC s]) := by
  go_enter Tryd.func28, Tryd.ntmps28
  go_wp2
  go_ret
  exact ⟨_, 1, rfl, row_one (Nat.le_refl _) (heap_new _ _), below_one _ _⟩
theorem bin_any (s : ByteArray) (w : World) : Calls Tryd.prog 29 #[.string s] w (IsTerm w [binC s]) := by
  go_enter Tryd.func29, Tryd.ntmps29
  go_wp2
  go_ret
  exact ⟨_, 1, rfl, row_one (Nat.le_refl _) (heap_new _ _), below_one _ _⟩
theorem IsTermE.up {w w1 : World} {r : List CellD × Int} {e : Ending} {w' : World} (h : IsTermE w1 r e w') (hB : Below w.heap.size w w1) : IsTermE w r e w' := by
  obtain ⟨A, c, he, hr, hb⟩ := h
  exact ⟨A, c, he, row_mono hr hB.size, below_then hB hb⟩
theorem IsTermE.eq {w : World} {r r' : List CellD × Int} {e : Ending} {w' : World} (h : IsTermE w r e w') (hr : r' = r) : IsTermE w r' e w' := by rw [hr]; exact h
theorem IsTermE.none_ {w w' : World} {k : Int} (hB : Below w.heap.size w w') : IsTermE w ([], k) (.returned (.tuple #[.slice none 0 0, .int .i64 k])) w' :=
  ⟨none, 0, rfl, row_nil _ _ _ _, hB⟩
theorem reads_one {w : World} {g : Nat} {c : CellD} {t : TypeId} (h : w.heap[g]? = some (.cells #[.int .i64 c.kind, .int .i64 c.n, .string c.text] t (0, 0))) : Reads w (some ⟨g, 0, none⟩) [c] := fun j hj => by
  have : j = 0 := by simpa using hj
  subst this
  refine ⟨g, 0, rfl, ?_, ?_, ?_⟩ <;> simp [World.cell?, h]
def tupleE (ls : List (List CellD)) : List CellD × Int :=
  if wrongE ls ≠ 0 then ([], wrongE ls) else if 255 < ls.length then ([], 1) else joinE [tupC ls.length] [] [] ls
def consE (l m : List CellD) : List CellD × Int := if wrongE [l, m] ≠ 0 then ([], wrongE [l, m]) else joinE [consC] [] [] [l, m]
def listE (ls : List (List CellD)) : List CellD × Int := if wrongE ls ≠ 0 then ([], wrongE ls) else joinE [] [consC] [nilC] ls
set_option maxHeartbeats 1000000 in
theorem tuple_any (ls : List (List CellD)) (A : Option Addr) (c : Nat) (w : World) (hr : Reads2 w A ls) (hf : Fine2 ls) (hn : ls.length ≤ 1000000000000000) (hT : Tabs w) :
    Calls Tryd.prog 31 #[.slice A ls.length c] w (IsTermE w (tupleE ls)) := by
  have HR := Lib.hid hr
  have HF := Lib.hid hf
  have HT := Lib.hid hT
  clear hr hf hT
  go_enter Tryd.func31, Tryd.ntmps31
  go_wp2_with fail
  refine (wrong_any ls A c _ HR.out HF.out hn HT.out).mono ?_
  rintro e w1 ⟨rfl, hB1⟩
  by_cases he : wrongE ls = 0
  · have ht : (wrongE ls != 0) = false := by rw [bne_eq_false_iff_eq]; exact he
    by_cases hl : 255 < ls.length
    · have hF := Lib.hid (show tupleE ls = ([], 1) by rw [tupleE, if_neg (by simp [he]), if_pos hl])
      clear he
      go_wp2
      go_ret2
      exact (IsTermE.none_ hB1).eq hF.out
    · have hF := Lib.hid (show tupleE ls = joinE [tupC ls.length] [] [] ls by rw [tupleE, if_neg (by simp [he]), if_neg hl])
      have hl' : decide (255 < (ls.length : Int)) = false := decide_eq_false (by omega)
      clear he
      go_wp2_with fail
      have hb := below_one w1 (.cells #[.int .i64 5, .int .i64 (ls.length : Int), .string ⟨#[]⟩] 32)
      have hB2 := below_then hB1 hb
      refine (joined_any [tupC ls.length] [] [] ls (some ⟨w1.heap.size, 0, none⟩) none none A 1 0 0 c _ (reads_one (heap_new w1 _)) (Reads.nil _ _) (Reads.nil _ _) (HR.out.below hB2) (by simp) (by simp) (by simp) HF.out hn).mono ?_
      rintro e w2 ⟨A2, c2, rfl, hw⟩
      go_wp2
      go_ret2
      exact ((show IsTermE _ _ _ _ from ⟨A2, c2, rfl, hw⟩).up hB2).eq hF.out
  · have ht : (wrongE ls != 0) = true := by rw [bne_iff_ne]; exact he
    have hF := Lib.hid (show tupleE ls = ([], wrongE ls) by rw [tupleE, if_pos he])
    clear he
    go_wp2
    go_ret2
    exact (IsTermE.none_ hB1).eq hF.out
set_option maxHeartbeats 1000000 in
theorem cons_any (l m : List CellD) (A B : Option Addr) (c d : Nat) (w : World) (hr : Reads w A l) (hr2 : Reads w B m) (hf : Fine l) (hf2 : Fine m) (hc : l.length ≤ c) (hd : m.length ≤ d) (hT : Tabs w) :
    Calls Tryd.prog 36 #[.slice A l.length c, .slice B m.length d] w (IsTermE w (consE l m)) := by
  have HR := Lib.hid hr
  have HR2 := Lib.hid hr2
  have HF := Lib.hid (two_fine hf hf2)
  have HT := Lib.hid hT
  have HS := Lib.hid (slAt_new2 (t := 22) hr hc hr2 hd)
  clear hr hr2 hf hf2 hT
  go_enter Tryd.func36, Tryd.ntmps36
  go_wp2_with fail
  refine (wrong_any [l, m] _ 2 _ HS.out HF.out (by simp) (Utf8Tabs_below HT.out (below_one _ _))).mono ?_
  rintro e w1 ⟨rfl, hb1⟩
  have hB1 := below_then (below_one _ _) hb1
  clear hb1
  by_cases he : wrongE [l, m] = 0
  · have ht : (wrongE [l, m] != 0) = false := by rw [bne_eq_false_iff_eq]; exact he
    have hF := Lib.hid (show consE l m = joinE [consC] [] [] [l, m] by rw [consE, if_neg (by simp [he])])
    clear he
    go_wp2_with fail
    have hb := below_one w1 (.cells #[.int .i64 7, .int .i64 0, .string ⟨#[]⟩] 32)
    have hB2 := below_then hB1 hb
    have HS2 := Lib.hid (slAt_new2 (t := 22) (HR.out.below hB2) hc (HR2.out.below hB2) hd)
    have h0 := reads_one (c := consC) (heap_new w1 (.cells #[.int .i64 7, .int .i64 0, .string ⟨#[]⟩] 32))
    have hB3 := below_then hB2 (below_one _ (.cells #[.slice A l.length c, .slice B m.length d] 22))
    have H0 := Lib.hid (h0.below (below_one _ (.cells #[.slice A l.length c, .slice B m.length d] 22)))
    clear h0
    rw [World.size_alloc] at HS2
    refine (joined_any [consC] [] [] [l, m] (some ⟨w1.heap.size, 0, none⟩) none none (some ⟨w1.heap.size + 1, 0, none⟩) 1 0 0 2 _ H0.out (Reads.nil _ _) (Reads.nil _ _) HS2.out (by simp) (by simp) (by simp) HF.out (by simp)).mono ?_
    rintro e w2 ⟨A2, c2, rfl, hw⟩
    go_wp2
    go_ret2
    exact ((show IsTermE _ _ _ _ from ⟨A2, c2, rfl, hw⟩).up hB3).eq hF.out
  · have ht : (wrongE [l, m] != 0) = true := by rw [bne_iff_ne]; exact he
    have hF := Lib.hid (show consE l m = ([], wrongE [l, m]) by rw [consE, if_pos he])
    clear he
    go_wp2
    go_ret2
    exact (IsTermE.none_ hB1).eq hF.out
set_option maxHeartbeats 1000000 in
theorem list_any (ls : List (List CellD)) (A : Option Addr) (c : Nat) (w : World) (hr : Reads2 w A ls) (hf : Fine2 ls) (hn : ls.length ≤ 1000000000000000) (hT : Tabs w) :
    Calls Tryd.prog 33 #[.slice A ls.length c] w (IsTermE w (listE ls)) := by
  have HR := Lib.hid hr
  have HF := Lib.hid hf
  have HT := Lib.hid hT
  clear hr hf hT
  go_enter Tryd.func33, Tryd.ntmps33
  go_wp2_with fail
  refine (wrong_any ls A c _ HR.out HF.out hn HT.out).mono ?_
  rintro e w1 ⟨rfl, hB1⟩
  by_cases he : wrongE ls = 0
  · have ht : (wrongE ls != 0) = false := by rw [bne_eq_false_iff_eq]; exact he
    have hF := Lib.hid (show listE ls = joinE [] [consC] [nilC] ls by rw [listE, if_neg (by simp [he])])
    clear he
    go_wp2_with fail
    have h0 := reads_one (c := consC) (heap_new w1 (.cells #[.int .i64 7, .int .i64 0, .string ⟨#[]⟩] 32))
    have hb := below_one w1 (.cells #[.int .i64 7, .int .i64 0, .string ⟨#[]⟩] 32)
    have hb' := below_one (w1.alloc (.cells #[.int .i64 7, .int .i64 0, .string ⟨#[]⟩] 32)) (.cells #[.int .i64 6, .int .i64 0, .string ⟨#[]⟩] 32)
    have h1 := reads_one (c := nilC) (heap_new (w1.alloc (.cells #[.int .i64 7, .int .i64 0, .string ⟨#[]⟩] 32)) (.cells #[.int .i64 6, .int .i64 0, .string ⟨#[]⟩] 32))
    have hB3 := below_then (below_then hB1 hb) hb'
    have H0 := Lib.hid (h0.below hb')
    have H1 := Lib.hid h1
    clear h0 h1 hb hb'
    rw [World.size_alloc] at H1
    refine (joined_any [] [consC] [nilC] ls none (some ⟨w1.heap.size, 0, none⟩) (some ⟨w1.heap.size + 1, 0, none⟩) A 0 1 1 c _ (Reads.nil _ _) H0.out H1.out (HR.out.below hB3) (by simp) (by simp) (by simp) HF.out hn).mono ?_
    rintro e w2 ⟨A2, c2, rfl, hw⟩
    go_wp2
    go_ret2
    exact ((show IsTermE _ _ _ _ from ⟨A2, c2, rfl, hw⟩).up hB3).eq hF.out
  · have ht : (wrongE ls != 0) = true := by rw [bne_iff_ne]; exact he
    have hF := Lib.hid (show listE ls = ([], wrongE ls) by rw [listE, if_pos he])
    clear he
    go_wp2
    go_ret2
    exact (IsTermE.none_ hB1).eq hF.out
end Go.Proofs.YtefpolgflimlgaaDoor.Tm
