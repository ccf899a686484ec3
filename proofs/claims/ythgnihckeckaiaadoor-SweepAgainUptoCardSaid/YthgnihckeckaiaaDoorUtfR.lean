/- UTF-8: the document's 'utf8' tells utf8B. -/
import Derived.Test.YthgnihckeckaiaaDoorRows
import Derived.Test.YthgnihckeckaiaaDoorBase
import Derived.Laws.BitsLemmas
import Derived.Deep.LoopGhost
import Derived.Handy
namespace Go.Proofs.YthgnihckeckaiaaDoor.Tm
open Go.RowKit
set_option linter.unusedVariables false
set_option linter.unusedSimpArgs false

theorem i64_wraps (n : Int) (h₀ : 0 ≤ n) (h₁ : n < 2 ^ 63) : IntKind.i64.wrap n = n := by rw [IntKind.wrap_i64]; omega
theorem i64_and31 (x : Int) (h₀ : 0 ≤ x) (h₁ : x < 256) : Go.bits .and .i64 x 31 = x % 32 := bits_mask .i64 63 (by decide) i64_wraps 5 (by decide) x h₀ (by omega)
theorem i64_and15 (x : Int) (h₀ : 0 ≤ x) (h₁ : x < 256) : Go.bits .and .i64 x 15 = x % 16 := bits_mask .i64 63 (by decide) i64_wraps 4 (by decide) x h₀ (by omega)
theorem i64_and7 (x : Int) (h₀ : 0 ≤ x) (h₁ : x < 256) : Go.bits .and .i64 x 7 = x % 8 := bits_mask .i64 63 (by decide) i64_wraps 3 (by decide) x h₀ (by omega)
set_option maxRecDepth 100000 in
theorem u8_and192 : ∀ x : Fin 256, Go.bits .and .u8 ((x.val : Nat) : Int) 192 = ((x.val / 64 * 64 : Nat) : Int) := by decide
theorem u8_192 (x : Nat) (h : x < 256) : Go.bits .and .u8 (x : Int) 192 = (x : Int) / 64 * 64 := by rw [u8_and192 ⟨x, h⟩]; simp
theorem u8_63 (x : Nat) (h : x < 256) : Go.bits .and .u8 (x : Int) 63 = (x : Int) % 64 := u8_and63 _ (by omega) (by omega)
theorem byte_bN (s : ByteArray) (p : Nat) (h : p < s.size) : ((s[p]'h).toNat) = bN s p := by unfold bN; rw [get_lt s p h]

set_option maxHeartbeats 20000000 in
set_option maxRecDepth 100000 in
theorem utf8_any (s : ByteArray) (w : World) (hs : s.size ≤ 1000000000000000) :
    Calls Tryd.prog 133 #[.string s] w fun e w' => e = .returned (.bool (utf8B s)) ∧ w = w' := by
  go_enter Tryd.func133, Tryd.ntmps133
  go_wp2_with fail
  go_loop [3] (fun i => ∃ p : Nat, p ≤ s.size ∧ i = .int .i64 p ∧ Hid (utf8B s = okFrom s p)) (fun i => s.size - (intOf i).toNat)
  case atStart => exact ⟨0, by omega, rfl, rfl⟩
  case round =>
    obtain ⟨p, hp, rfl, hE⟩ := hrel
    by_cases hlt : p < s.size
    · have hb0 := byte_bN s p hlt
      have hx := bN_lt s p
      by_cases c1 : bN s p < 128
      · have hF := Lib.hid (hE.out.trans (cls1 hlt c1))
        go_wp2
        go_round
        case rel => exact ⟨p + 1, by omega, by go_num, hF⟩
        case measure => simp [intOf]; omega
      · by_cases c2 : bN s p < 194
        · have hF := Lib.hid (hE.out.trans (cls2 hlt (by omega) c2))
          go_wp2
          go_ret
          exact ⟨by rw [hF.out]; rfl, rfl⟩
        · by_cases c3 : bN s p < 224
          · have hF := Lib.hid (hE.out.trans (cls3 hlt (by omega) c3))
            have ha := i64_and31 (bN s p : Int) (by omega) (by omega)
            have hC := hF
            clear hF
            by_cases g1 : p + 1 < s.size
            · have hb1 := byte_bN s (p + 1) g1
              have hx1 := bN_lt s (p + 1)
              have h1921 := u8_192 (bN s (p + 1)) hx1
              have h631 := u8_63 (bN s (p + 1)) hx1
              by_cases d1 : bN s (p + 1) / 64 = 2
              · have k1 : contN s (p + 1) = true := by simp [contN, g1, d1]
                have e1 : ((bN s (p + 1) : Int) / 64 * 64 != 128) = false := by rw [bne_eq_false_iff_eq]; omega
                have hF : Hid (utf8B s = okFrom s (p + 2)) := Lib.hid (hC.out.trans (by simp [k1]))
                go_wp2_with fail
                go_rounds 2

                go_round
                case rel => exact ⟨p + 2, by omega, by go_num, hF⟩
                case measure => simp [intOf]; omega
              · have k1 : contN s (p + 1) = false := by simp [contN, d1]
                have e1 : ((bN s (p + 1) : Int) / 64 * 64 != 128) = true := by rw [bne_iff_ne]; omega
                have hF : Hid (utf8B s = false) := Lib.hid (hC.out.trans (by simp [k1]))
                go_wp2_with fail
                go_rounds 2
                go_ret
                exact ⟨by rw [hF.out]; rfl, rfl⟩
            · have k1 : contN s (p + 1) = false := by simp [contN, g1]
              have hF : Hid (utf8B s = false) := Lib.hid (hC.out.trans (by simp [k1]))
              go_wp2_with fail
              go_rounds 2
              go_ret
              exact ⟨by rw [hF.out]; rfl, rfl⟩
          · by_cases c4 : bN s p < 240
            · have hC := Lib.hid (hE.out.trans (cls4 hlt (by omega) c4))
              have ha := i64_and15 (bN s p : Int) (by omega) (by omega)
              by_cases g1 : p + 1 < s.size
              · have hb1 := byte_bN s (p + 1) g1
                have hx1 := bN_lt s (p + 1)
                have h1921 := u8_192 (bN s (p + 1)) hx1
                have h631 := u8_63 (bN s (p + 1)) hx1
                by_cases d1 : bN s (p + 1) / 64 = 2
                · have k1 : contN s (p + 1) = true := by simp [contN, g1, d1]
                  have e1 : ((bN s (p + 1) : Int) / 64 * 64 != 128) = false := by rw [bne_eq_false_iff_eq]; omega
                  by_cases g2 : p + 2 < s.size
                  · have hb2 := byte_bN s (p + 2) g2
                    have hx2 := bN_lt s (p + 2)
                    have h1922 := u8_192 (bN s (p + 2)) hx2
                    have h632 := u8_63 (bN s (p + 2)) hx2
                    by_cases d2 : bN s (p + 2) / 64 = 2
                    · have k2 : contN s (p + 2) = true := by simp [contN, g2, d2]
                      have e2 : ((bN s (p + 2) : Int) / 64 * 64 != 128) = false := by rw [bne_eq_false_iff_eq]; omega
                      by_cases hc : 2048 ≤ r3 s p ∧ (r3 s p < 55296 ∨ 57344 ≤ r3 s p)
                      · have hF : Hid (utf8B s = okFrom s (p + 3)) := Lib.hid (hC.out.trans (by simp only [k1, k2, if_true, if_pos hc]))
                        unfold r3 at hc
                        clear hC
                        obtain ⟨hc1, hc2⟩ := hc
                        rcases hc2 with hc2 | hc2
                        · go_wp2_with fail
                          go_rounds 3

                          go_round
                          case rel => exact ⟨p + 3, by omega, by go_num, hF⟩
                          case measure => simp [intOf]; omega
                        · go_wp2_with fail
                          go_rounds 3

                          go_round
                          case rel => exact ⟨p + 3, by omega, by go_num, hF⟩
                          case measure => simp [intOf]; omega
                      · have hF : Hid (utf8B s = false) := Lib.hid (hC.out.trans (by simp only [k1, k2, if_true, if_neg hc]))
                        unfold r3 at hc
                        clear hC
                        rcases (show (bN s p % 16 * 4096 + bN s (p + 1) % 64 * 64 + bN s (p + 2) % 64 < 2048) ∨ (2048 ≤ bN s p % 16 * 4096 + bN s (p + 1) % 64 * 64 + bN s (p + 2) % 64 ∧ 55296 ≤ bN s p % 16 * 4096 + bN s (p + 1) % 64 * 64 + bN s (p + 2) % 64 ∧ bN s p % 16 * 4096 + bN s (p + 1) % 64 * 64 + bN s (p + 2) % 64 < 57344) from by omega) with hd | ⟨hd1, hd2, hd3⟩
                        · go_wp2_with fail
                          go_rounds 3

                          go_ret
                          exact ⟨by rw [hF.out]; rfl, rfl⟩
                        · go_wp2_with fail
                          go_rounds 3

                          go_ret
                          exact ⟨by rw [hF.out]; rfl, rfl⟩
                    · have k2 : contN s (p + 2) = false := by simp [contN, d2]
                      have e2 : ((bN s (p + 2) : Int) / 64 * 64 != 128) = true := by rw [bne_iff_ne]; omega
                      have hF : Hid (utf8B s = false) := Lib.hid (hC.out.trans (by simp [k1, k2]))
                      go_wp2_with fail
                      go_rounds 3
                      go_ret
                      exact ⟨by rw [hF.out]; rfl, rfl⟩
                  · have k2 : contN s (p + 2) = false := by simp [contN, g2]
                    have hF : Hid (utf8B s = false) := Lib.hid (hC.out.trans (by simp [k1, k2]))
                    go_wp2_with fail
                    go_rounds 3
                    go_ret
                    exact ⟨by rw [hF.out]; rfl, rfl⟩
                · have k1 : contN s (p + 1) = false := by simp [contN, d1]
                  have e1 : ((bN s (p + 1) : Int) / 64 * 64 != 128) = true := by rw [bne_iff_ne]; omega
                  have hF : Hid (utf8B s = false) := Lib.hid (hC.out.trans (by simp [k1]))
                  go_wp2_with fail
                  go_rounds 3
                  go_ret
                  exact ⟨by rw [hF.out]; rfl, rfl⟩
              · have k1 : contN s (p + 1) = false := by simp [contN, g1]
                have hF : Hid (utf8B s = false) := Lib.hid (hC.out.trans (by simp [k1]))
                go_wp2_with fail
                go_rounds 3
                go_ret
                exact ⟨by rw [hF.out]; rfl, rfl⟩
            · by_cases c5 : bN s p < 245
              · have hC := Lib.hid (hE.out.trans (cls5 hlt (by omega) c5))
                have ha := i64_and7 (bN s p : Int) (by omega) (by omega)
                by_cases g1 : p + 1 < s.size
                · have hb1 := byte_bN s (p + 1) g1
                  have hx1 := bN_lt s (p + 1)
                  have h1921 := u8_192 (bN s (p + 1)) hx1
                  have h631 := u8_63 (bN s (p + 1)) hx1
                  by_cases d1 : bN s (p + 1) / 64 = 2
                  · have k1 : contN s (p + 1) = true := by simp [contN, g1, d1]
                    have e1 : ((bN s (p + 1) : Int) / 64 * 64 != 128) = false := by rw [bne_eq_false_iff_eq]; omega
                    by_cases g2 : p + 2 < s.size
                    · have hb2 := byte_bN s (p + 2) g2
                      have hx2 := bN_lt s (p + 2)
                      have h1922 := u8_192 (bN s (p + 2)) hx2
                      have h632 := u8_63 (bN s (p + 2)) hx2
                      by_cases d2 : bN s (p + 2) / 64 = 2
                      · have k2 : contN s (p + 2) = true := by simp [contN, g2, d2]
                        have e2 : ((bN s (p + 2) : Int) / 64 * 64 != 128) = false := by rw [bne_eq_false_iff_eq]; omega
                        by_cases g3 : p + 3 < s.size
                        · have hb3 := byte_bN s (p + 3) g3
                          have hx3 := bN_lt s (p + 3)
                          have h1923 := u8_192 (bN s (p + 3)) hx3
                          have h633 := u8_63 (bN s (p + 3)) hx3
                          by_cases d3 : bN s (p + 3) / 64 = 2
                          · have k3 : contN s (p + 3) = true := by simp [contN, g3, d3]
                            have e3 : ((bN s (p + 3) : Int) / 64 * 64 != 128) = false := by rw [bne_eq_false_iff_eq]; omega
                            by_cases hc : 65536 ≤ r4 s p ∧ r4 s p ≤ 1114111
                            · have hF : Hid (utf8B s = okFrom s (p + 4)) := Lib.hid (hC.out.trans (by simp only [k1, k2, k3, if_true, if_pos hc]))
                              unfold r4 at hc
                              clear hC
                              obtain ⟨hc1, hc2⟩ := hc
                              go_wp2_with fail
                              go_rounds 4

                              go_round
                              case rel => exact ⟨p + 4, by omega, by go_num, hF⟩
                              case measure => simp [intOf]; omega
                            · have hF : Hid (utf8B s = false) := Lib.hid (hC.out.trans (by simp only [k1, k2, k3, if_true, if_neg hc]))
                              unfold r4 at hc
                              clear hC
                              rcases (show (bN s p % 8 * 262144 + bN s (p + 1) % 64 * 4096 + bN s (p + 2) % 64 * 64 + bN s (p + 3) % 64 < 65536) ∨ (65536 ≤ bN s p % 8 * 262144 + bN s (p + 1) % 64 * 4096 + bN s (p + 2) % 64 * 64 + bN s (p + 3) % 64 ∧ 1114111 < bN s p % 8 * 262144 + bN s (p + 1) % 64 * 4096 + bN s (p + 2) % 64 * 64 + bN s (p + 3) % 64) from by omega) with hd | ⟨hd1, hd2⟩
                              · go_wp2_with fail
                                go_rounds 4

                                go_ret
                                exact ⟨by rw [hF.out]; rfl, rfl⟩
                              · go_wp2_with fail
                                go_rounds 4

                                go_ret
                                exact ⟨by rw [hF.out]; rfl, rfl⟩
                          · have k3 : contN s (p + 3) = false := by simp [contN, d3]
                            have e3 : ((bN s (p + 3) : Int) / 64 * 64 != 128) = true := by rw [bne_iff_ne]; omega
                            have hF : Hid (utf8B s = false) := Lib.hid (hC.out.trans (by simp [k1, k2, k3]))
                            go_wp2_with fail
                            go_rounds 4
                            go_ret
                            exact ⟨by rw [hF.out]; rfl, rfl⟩
                        · have k3 : contN s (p + 3) = false := by simp [contN, g3]
                          have hF : Hid (utf8B s = false) := Lib.hid (hC.out.trans (by simp [k1, k2, k3]))
                          go_wp2_with fail
                          go_rounds 4
                          go_ret
                          exact ⟨by rw [hF.out]; rfl, rfl⟩
                      · have k2 : contN s (p + 2) = false := by simp [contN, d2]
                        have e2 : ((bN s (p + 2) : Int) / 64 * 64 != 128) = true := by rw [bne_iff_ne]; omega
                        have hF : Hid (utf8B s = false) := Lib.hid (hC.out.trans (by simp [k1, k2]))
                        go_wp2_with fail
                        go_rounds 4
                        go_ret
                        exact ⟨by rw [hF.out]; rfl, rfl⟩
                    · have k2 : contN s (p + 2) = false := by simp [contN, g2]
                      have hF : Hid (utf8B s = false) := Lib.hid (hC.out.trans (by simp [k1, k2]))
                      go_wp2_with fail
                      go_rounds 4
                      go_ret
                      exact ⟨by rw [hF.out]; rfl, rfl⟩
                  · have k1 : contN s (p + 1) = false := by simp [contN, d1]
                    have e1 : ((bN s (p + 1) : Int) / 64 * 64 != 128) = true := by rw [bne_iff_ne]; omega
                    have hF : Hid (utf8B s = false) := Lib.hid (hC.out.trans (by simp [k1]))
                    go_wp2_with fail
                    go_rounds 4
                    go_ret
                    exact ⟨by rw [hF.out]; rfl, rfl⟩
                · have k1 : contN s (p + 1) = false := by simp [contN, g1]
                  have hF : Hid (utf8B s = false) := Lib.hid (hC.out.trans (by simp [k1]))
                  go_wp2_with fail
                  go_rounds 4
                  go_ret
                  exact ⟨by rw [hF.out]; rfl, rfl⟩
              · have hF := Lib.hid (hE.out.trans (cls6 hlt (by omega)))
                go_wp2
                go_ret
                exact ⟨by rw [hF.out]; rfl, rfl⟩
    · have hF := Lib.hid (hE.out.trans (okFrom_end hlt))
      go_wp2
      go_ret
      exact ⟨by rw [hF.out]; rfl, rfl⟩
end Go.Proofs.YthgnihckeckaiaaDoor.Tm
