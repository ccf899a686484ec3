/- UTF-8: what the model's decoder tells of each class of first bytes. -/
import Derived.Test.YtefpolgflimlgaaDoorTerm
import Derived.Lib.DecodeN
namespace Go.Proofs.YtefpolgflimlgaaDoor.Tm
set_option linter.unusedVariables false
set_option linter.unusedSimpArgs false

def bN (s : ByteArray) (i : Nat) : Nat := (s.get! i).toNat
theorem bN_lt (s : ByteArray) (i : Nat) : bN s i < 256 := (s.get! i).toNat_lt
def contN (s : ByteArray) (i : Nat) : Bool := decide (i < s.size) && decide (bN s i / 64 = 2)
theorem decode_eq (s : ByteArray) (i : Nat) : Utf8.decode s i =
    (if bN s i < 128 then (bN s i, 1)
    else if bN s i / 32 = 6 ∧ contN s (i + 1) = true then
      (if bN s i % 32 * 64 + bN s (i + 1) % 64 ≥ 128 then (bN s i % 32 * 64 + bN s (i + 1) % 64, 2) else (65533, 1))
    else if bN s i / 16 = 14 ∧ contN s (i + 1) = true ∧ contN s (i + 2) = true then
      (if bN s i % 16 * 4096 + bN s (i + 1) % 64 * 64 + bN s (i + 2) % 64 ≥ 2048 ∧ Utf8.valid (bN s i % 16 * 4096 + bN s (i + 1) % 64 * 64 + bN s (i + 2) % 64 : Nat) = true then (bN s i % 16 * 4096 + bN s (i + 1) % 64 * 64 + bN s (i + 2) % 64, 3) else (65533, 1))
    else if bN s i / 8 = 30 ∧ contN s (i + 1) = true ∧ contN s (i + 2) = true ∧ contN s (i + 3) = true then
      (if bN s i % 8 * 262144 + bN s (i + 1) % 64 * 4096 + bN s (i + 2) % 64 * 64 + bN s (i + 3) % 64 ≥ 65536 ∧ Utf8.valid (bN s i % 8 * 262144 + bN s (i + 1) % 64 * 4096 + bN s (i + 2) % 64 * 64 + bN s (i + 3) % 64 : Nat) = true then (bN s i % 8 * 262144 + bN s (i + 1) % 64 * 4096 + bN s (i + 2) % 64 * 64 + bN s (i + 3) % 64, 4) else (65533, 1))
    else (65533, 1)) := by
  unfold Utf8.decode contN bN
  simp only [Utf8.runeError, Nat.add_zero, beq_iff_eq, Bool.and_eq_true, decide_eq_true_eq, and_assoc]
theorem width_pos (s : ByteArray) (i : Nat) : 1 ≤ (Utf8.decode s i).2 := by
  rw [decode_eq]
  repeat' split
  all_goals simp
theorem valid_iff (c : Nat) : Utf8.valid (c : Int) = true ↔ (c < 55296 ∨ (57344 ≤ c ∧ c ≤ 1114111)) := by
  simp [Utf8.valid]; omega
theorem okFrom_end {s : ByteArray} {i : Nat} (h : ¬ i < s.size) : okFrom s i = true := by rw [okFrom, if_neg h]
theorem okFrom_bad {s : ByteArray} {i : Nat} (h : i < s.size) (hb : badAt s i = true) : okFrom s i = false := by rw [okFrom, if_pos h, if_pos hb]
theorem okFrom_next {s : ByteArray} {i : Nat} (h : i < s.size) (hb : badAt s i = false) : okFrom s i = okFrom s (i + (Utf8.decode s i).2) := by
  conv => lhs; rw [okFrom]
  rw [if_pos h, if_neg (by rw [hb]; simp)]
  have := width_pos s i
  rw [Nat.max_eq_right this]
/-- The classes. -/
theorem cls1 {s : ByteArray} {i : Nat} (h : i < s.size) (hb : bN s i < 128) : okFrom s i = okFrom s (i + 1) := by
  have e : Utf8.decode s i = (bN s i, 1) := by rw [decode_eq, if_pos hb]
  rw [okFrom_next h (by unfold badAt; rw [e]; simp; omega), e]
theorem cls_bad {s : ByteArray} {i : Nat} (h : i < s.size) (e : Utf8.decode s i = (65533, 1)) : okFrom s i = false := okFrom_bad h (by unfold badAt; rw [e]; simp)
theorem cls2 {s : ByteArray} {i : Nat} (h : i < s.size) (h0 : 128 ≤ bN s i) (h1 : bN s i < 194) : okFrom s i = false := by
  have hx := bN_lt s (i + 1)
  refine cls_bad h ?_
  rw [decode_eq, if_neg (by omega)]
  split
  · rw [if_neg (by omega)]
  · rw [if_neg (by omega), if_neg (by omega)]
theorem cls6 {s : ByteArray} {i : Nat} (h : i < s.size) (h0 : 245 ≤ bN s i) : okFrom s i = false := by
  have hx := bN_lt s i
  refine cls_bad h ?_
  rw [decode_eq, if_neg (by omega), if_neg (by omega), if_neg (by omega)]
  split
  · rw [if_neg ?_]
    rw [valid_iff]; omega
  · rfl
theorem cls3 {s : ByteArray} {i : Nat} (h : i < s.size) (h0 : 194 ≤ bN s i) (h1 : bN s i < 224) : okFrom s i = (if contN s (i + 1) = true then okFrom s (i + 2) else false) := by
  by_cases c : contN s (i + 1) = true
  · have e : Utf8.decode s i = (bN s i % 32 * 64 + bN s (i + 1) % 64, 2) := by
      rw [decode_eq, if_neg (by omega), if_pos ⟨by omega, c⟩, if_pos (by omega)]
    rw [if_pos c, okFrom_next h (by unfold badAt; rw [e]; simp), e]
  · rw [if_neg c]
    refine cls_bad h ?_
    rw [decode_eq, if_neg (by omega), if_neg (fun hh => c hh.2), if_neg (by omega), if_neg (by omega)]
/-- A rune of three bytes, of four. -/
def r3 (s : ByteArray) (i : Nat) : Nat := bN s i % 16 * 4096 + bN s (i + 1) % 64 * 64 + bN s (i + 2) % 64
def r4 (s : ByteArray) (i : Nat) : Nat := bN s i % 8 * 262144 + bN s (i + 1) % 64 * 4096 + bN s (i + 2) % 64 * 64 + bN s (i + 3) % 64
theorem cls4 {s : ByteArray} {i : Nat} (h : i < s.size) (h0 : 224 ≤ bN s i) (h1 : bN s i < 240) :
    okFrom s i = (if contN s (i + 1) = true then (if contN s (i + 2) = true then (if 2048 ≤ r3 s i ∧ (r3 s i < 55296 ∨ 57344 ≤ r3 s i) then okFrom s (i + 3) else false) else false) else false) := by
  by_cases c1 : contN s (i + 1) = true
  · by_cases c2 : contN s (i + 2) = true
    · rw [if_pos c1, if_pos c2]
      have hr : r3 s i ≤ 65535 := by unfold r3; omega
      by_cases c3 : 2048 ≤ r3 s i ∧ (r3 s i < 55296 ∨ 57344 ≤ r3 s i)
      · have e : Utf8.decode s i = (r3 s i, 3) := by
          rw [decode_eq, if_neg (by omega), if_neg (by omega), if_pos ⟨by omega, c1, c2⟩, if_pos ⟨c3.1, (valid_iff (r3 s i)).2 (by omega)⟩]
          rfl
        rw [if_pos c3, okFrom_next h (by unfold badAt; rw [e]; simp), e]
      · rw [if_neg c3]
        refine cls_bad h ?_
        rw [decode_eq, if_neg (by omega), if_neg (by omega), if_pos ⟨by omega, c1, c2⟩, if_neg]
        rintro ⟨g1, g2⟩
        have := (valid_iff (r3 s i)).1 g2
        have g1' : 2048 ≤ r3 s i := g1
        omega
    · rw [if_pos c1, if_neg c2]
      refine cls_bad h ?_
      rw [decode_eq, if_neg (by omega), if_neg (by omega), if_neg (fun hh => c2 hh.2.2), if_neg (by omega)]
  · rw [if_neg c1]
    refine cls_bad h ?_
    rw [decode_eq, if_neg (by omega), if_neg (by omega), if_neg (fun hh => c1 hh.2.1), if_neg (by omega)]
theorem cls5 {s : ByteArray} {i : Nat} (h : i < s.size) (h0 : 240 ≤ bN s i) (h1 : bN s i < 245) :
    okFrom s i = (if contN s (i + 1) = true then (if contN s (i + 2) = true then (if contN s (i + 3) = true then (if 65536 ≤ r4 s i ∧ r4 s i ≤ 1114111 then okFrom s (i + 4) else false) else false) else false) else false) := by
  have hx : ¬ bN s i < 128 := by omega
  have hy : ¬ (bN s i / 32 = 6 ∧ contN s (i + 1) = true) := by omega
  have hz : ¬ (bN s i / 16 = 14 ∧ contN s (i + 1) = true ∧ contN s (i + 2) = true) := by omega
  by_cases c1 : contN s (i + 1) = true
  · by_cases c2 : contN s (i + 2) = true
    · by_cases c3 : contN s (i + 3) = true
      · rw [if_pos c1, if_pos c2, if_pos c3]
        by_cases c4 : 65536 ≤ r4 s i ∧ r4 s i ≤ 1114111
        · have e : Utf8.decode s i = (r4 s i, 4) := by
            rw [decode_eq, if_neg hx, if_neg hy, if_neg hz, if_pos ⟨by omega, c1, c2, c3⟩, if_pos ⟨c4.1, (valid_iff (r4 s i)).2 (by omega)⟩]
            rfl
          rw [if_pos c4, okFrom_next h (by unfold badAt; rw [e]; simp), e]
        · rw [if_neg c4]
          refine cls_bad h ?_
          rw [decode_eq, if_neg hx, if_neg hy, if_neg hz, if_pos ⟨by omega, c1, c2, c3⟩, if_neg]
          rintro ⟨g1, g2⟩
          have := (valid_iff (r4 s i)).1 g2
          have g1' : 65536 ≤ r4 s i := g1
          omega
      · rw [if_pos c1, if_pos c2, if_neg c3]
        refine cls_bad h ?_
        rw [decode_eq, if_neg hx, if_neg hy, if_neg hz, if_neg (fun hh => c3 hh.2.2.2)]
    · rw [if_pos c1, if_neg c2]
      refine cls_bad h ?_
      rw [decode_eq, if_neg hx, if_neg hy, if_neg hz, if_neg (fun hh => c2 hh.2.2.1)]
  · rw [if_neg c1]
    refine cls_bad h ?_
    rw [decode_eq, if_neg hx, if_neg hy, if_neg hz, if_neg (fun hh => c1 hh.2.1)]
/-- What is decoded of a string's end, cut off. -/
theorem get_lt (s : ByteArray) (k : Nat) (h : k < s.size) : s.get! k = s[k]'h := by
  cases s with
  | mk d => exact getElem!_pos d k h
theorem get_drop (s : ByteArray) (i k : Nat) (h : i + k < s.size) : (s.extract i s.size).get! k = s.get! (i + k) := by
  have h1 : k < (s.extract i s.size).size := by simp; omega
  rw [get_lt _ _ h1, get_lt _ _ h]
  simp [ByteArray.getElem_extract]
theorem get_past (s : ByteArray) (k : Nat) (h : s.size ≤ k) : s.get! k = 0 := by
  cases s with
  | mk d => exact getElem!_neg d k (by have h' : d.size ≤ k := h; omega)
theorem bN_drop (s : ByteArray) (i k : Nat) (hi : i ≤ s.size) : bN (s.extract i s.size) k = bN s (i + k) := by
  unfold bN
  by_cases h : i + k < s.size
  · rw [get_drop s i k h]
  · rw [get_past _ _ (by simp; omega), get_past _ _ (by omega)]
theorem contN_drop (s : ByteArray) (i k : Nat) (hi : i ≤ s.size) : contN (s.extract i s.size) k = contN s (i + k) := by
  unfold contN
  rw [bN_drop s i k hi]
  have e : (s.extract i s.size).size = s.size - i := by simp
  rw [e]
  congr 1
  rw [decide_eq_decide]
  omega
theorem decode_drop (s : ByteArray) (i : Nat) (h : i < s.size) : Utf8.decode (s.extract i s.size) 0 = Utf8.decode s i := by
  rw [decode_eq, decode_eq]
  simp only [Nat.zero_add, bN_drop s i _ (by omega), contN_drop s i _ (by omega), Nat.add_zero]
end Go.Proofs.YtefpolgflimlgaaDoor.Tm
