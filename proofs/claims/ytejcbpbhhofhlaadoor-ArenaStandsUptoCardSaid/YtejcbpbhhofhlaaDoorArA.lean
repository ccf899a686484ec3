/- ArenaShares: a tuple of one word twice, of that again, and so on. -/
import Derived.Test.YtejcbpbhhofhlaaDoorArI
namespace Go.Proofs.YtejcbpbhhofhlaaDoor.Tm
open Go.RowKit
set_option linter.unusedVariables false
set_option linter.unusedSimpArgs false

theorem tabs_size {w : World} (h : TabsA w) : 3 ≤ w.heap.size := by
  have h2 := cell_lt (h.utf.2 0 (by omega)).1
  simp at h2
  omega
theorem count_any (n : Int) (m : Nat) (w : World) (hm : 1 ≤ m) (hm2 : m ≤ 4611686018427387904) (hn : -9223372036854775808 ≤ n ∧ n < 9223372036854775808) : Calls Tryd.prog 18 #[.int .i64 n, .int .i64 (m : Int)] w fun e w' => ∃ k : Nat, k < m ∧ e = .returned (.int .i64 (k : Int)) ∧ w = w' := by
  obtain ⟨k, hk, he⟩ : ∃ k : Nat, k < m ∧ (if Int.tmod n m < 0 then Int.tmod n m + m else Int.tmod n m) = (k : Int) := by
    have h1 := Int.tmod_lt_of_pos n (show (0 : Int) < m by omega)
    have h2 := Int.lt_tmod_of_pos n (show (0 : Int) < m by omega)
    refine ⟨(if Int.tmod n m < 0 then Int.tmod n m + m else Int.tmod n m).toNat, ?_, ?_⟩ <;> split <;> omega
  have hm0 : ((m : Int) == 0) = false := beq_eq_false_iff_ne.2 (by omega)
  have hm1 : (m : Int) ≠ 0 := by omega
  have hm3 : m ≠ 0 := by omega
  have h1 := Int.tmod_lt_of_pos n (show (0 : Int) < m by omega)
  have h2 := Int.lt_tmod_of_pos n (show (0 : Int) < m by omega)
  by_cases h : Int.tmod n m < 0
  · rw [if_pos h] at he
    have d1 : decide (Int.tmod n m < 0) = true := decide_eq_true h
    have HE := Lib.hid he
    have w1 : IntKind.i64.wrap (Int.tmod n m) = Int.tmod n m := by rw [IntKind.wrap_i64]; omega
    have w2 : IntKind.i64.wrap (Int.tmod n m + m) = Int.tmod n m + m := by rw [IntKind.wrap_i64]; omega
    go_enter Tryd.func18, Tryd.ntmps18
    go_wp2
    go_ret
    exact ⟨k, hk, by first | rfl | (simp [HE.out]) | (simp [← HE.out, w2]), rfl⟩
  · rw [if_neg h] at he
    have d1 : decide (Int.tmod n m < 0) = false := decide_eq_false h
    have HE := Lib.hid he
    have w1 : IntKind.i64.wrap (Int.tmod n m) = Int.tmod n m := by rw [IntKind.wrap_i64]; omega
    go_enter Tryd.func18, Tryd.ntmps18
    go_wp2
    go_ret
    exact ⟨k, hk, by first | rfl | (simp [HE.out]) | (simp [← HE.out]), rfl⟩
theorem total_bound : ∀ {l : List CellD} {o : Int}, Good l o → (totalA l : Int) ≤ 130 * (l.length : Int) - o
  | [], o, g => by
    have g0 : o = 0 := g
    simp [totalA, g0]
  | c :: l, o, g => by
    have h1 := cost_le g.1
    have h2 := total_bound g.2.2
    have e : totalA (c :: l) = costC c + totalA l := by simp [totalA]
    rw [e, List.length_cons]
    omega
/-- What a tuple of one word twice makes. -/
structure TwiceSpec (room : Nat) (l : List ObjA) (x : Int) (T : List CellD) : Prop where
  e : holdE room l (tupA 2) [x, x] = 0
  wf : WfA (holdL room l (tupA 2) [x, x])
  used : usedA (holdL room l (tupA 2) [x, x]) = usedA l + 3
  fx : FindOk (holdL room l (tupA 2) [x, x]) (holdX room l (tupA 2) [x, x])
  tell : Tells (holdL room l (tupA 2) [x, x]) [holdX room l (tupA 2) [x, x]] (tupA 2 :: (T ++ T))
theorem twice {room : Nat} {l : List ObjA} {x : Int} {T : List CellD} (hw : WfA l) (hx : FindOk l x) (ht : Tells l [x] T) (hr : room ≤ 262144) (hu : usedA l + 3 ≤ room) : TwiceSpec room l x T := by
  obtain ⟨k1, k2, k3⟩ := tupA_ok (n := 2) (by omega)
  have hc := tupA_cost (n := 2)
  have hall : allFind l [x, x] = true := by simp [allFind, hx.1]
  have e : holdE room l (tupA 2) [x, x] = 0 := by unfold holdE; rw [if_neg (by rw [hall]; simp), if_neg (by rw [hc]; omega)]
  have e1 : holdL room l (tupA 2) [x, x] = (makeA l (tupA 2) [x, x]).1 := by unfold holdL; rw [e, if_pos rfl]
  have e2 : holdX room l (tupA 2) [x, x] = (makeA l (tupA 2) [x, x]).2 := by unfold holdX; rw [e, if_pos rfl]
  have hp : ∀ p ∈ [x, x], FindOk l p := fun p hp => by
    simp at hp
    rw [hp]; exact hx
  refine ⟨e, ?_, ?_, ?_, ?_⟩
  · rw [e1]; exact make_wf hw k1 k2.symm hp
  · rw [e1, make_used k1, hc]
  · rw [e1, e2]; exact make_find hw k1 (by rw [hc]; omega)
  · rw [e1, e2]
    refine .cons (make_seen hw k1 k2.symm (by rw [hc]; omega)) ?_
    rw [List.append_nil]
    have ex := makeA_ext l (tupA 2) [x, x]
    exact (ht.ext ex).append (ht.ext ex)
theorem two_words {w : World} {g : Nat} {t : TypeId} {x y : Int} (h : w.heap[g]? = some (.cells #[.int .u64 x, .int .u64 y] t (0, 0))) : WReads w (some ⟨g, 0, none⟩) [x, y] := by
  intro j hj
  have : j < 2 := hj
  match j, this with
  | 0, _ => exact ⟨g, 0, rfl, by simp [World.cell?, h]⟩
  | 1, _ => exact ⟨g, 0, rfl, by simp [World.cell?, h]⟩
/-- The loop's state. -/
structure ShNow (w wr : World) (U : Nat) (j : Nat) (ba : Nat) (x : Int) (sz : Int) : Prop where
  is : ∃ (O : Nat → Prop) (l : List ObjA) (T : List CellD), ArAt wr O ba 262144 l ∧ (∀ k, O k → w.heap.size ≤ k) ∧ Below w.heap.size w wr ∧ FindOk l x ∧ Tells l [x] T ∧ usedA l = U + 3 * j ∧ sz = ((min T.length 1025 : Nat) : Int)
set_option maxRecDepth 10000 in
set_option maxHeartbeats 4000000 in
theorem shares_any (w : World) (t : List CellD) (A : Option Addr) (cap : Nat) (n : Int) (hT : TabsA w) (hr : Reads w A t) (hwf : ∀ j (h : j < t.length), WfC t[j]) (hl : t.length ≤ 1000000000000000) (hn : -9223372036854775808 ≤ n ∧ n < 9223372036854775808) :
    Calls Tryd.prog 4 #[.slice A t.length cap, .int .i64 n] w fun e w' => e = .returned (.bool true) ∧ Below w.heap.size w w' := by
  have h3 := tabs_size hT
  have hnew := new_any 262144 w (by omega) h3
  have HT := Lib.hid hT
  have HR := Lib.hid hr
  have HW := Lib.hid hwf
  have HN := Lib.hid hn
  clear hT hr hwf hn
  go_enter Tryd.func4, Tryd.ntmps4
  go_wp2_with fail
  refine hnew.mono ?_
  rintro e w1 ⟨ba, O, rfl, hA1, hO1, hB1⟩
  have hns : t.length ≠ 0 → ∀ g o, A = some ⟨g, o, none⟩ → ¬ O g := fun h0 g o e ho => by
    obtain ⟨b, o', e', hc⟩ := HR.out 0 (by omega)
    rw [e] at e'
    cases e'
    have h1 := cell_lt hc.1
    have h2 := hO1 _ ho
    simp at h1
    omega
  have hput := put_any w1 O ba 262144 [] t A cap hA1 (HT.out.below hB1) (HR.out.below hB1) hns HW.out hl
  by_cases he : (rightE t).1 = 0
  · obtain ⟨hg, h0, h1⟩ := rightE_ok he
    have htb := total_bound hg
    have e0 : putE 262144 [] t = 0 := by
      unfold putE
      rw [if_neg (by omega), if_neg (by simp only [usedA, List.map_nil, List.sum_nil]; omega)]
    have e1 : putL 262144 [] t = (putF [] t).1 := by unfold putL; rw [e0, if_pos rfl]
    have e2 : putX 262144 [] t = (putF [] t).2.2 := by unfold putX; rw [e0, if_pos rfl]
    have hS := put_spec (l := []) WfA.nil hg h0 (by simp only [usedA, List.map_nil, List.sum_nil]; omega)
    rw [e0, e1, e2] at hput
    have hus : usedA (putF [] t).1 = totalA t := by rw [hS.used]; simp [usedA]
    have hf := hS.fx
    have htl := hS.tell
    have htot : totalA t ≤ 133119 := by omega
    clear he hg htb e0 e1 e2 hS
    obtain ⟨L, hL⟩ : ∃ L, (putF [] t).1 = L := ⟨_, rfl⟩
    obtain ⟨X, hX⟩ : ∃ X, (putF [] t).2.2 = X := ⟨_, rfl⟩
    rw [hL, hX] at hput hf htl
    rw [hL] at hus
    clear hL hX hnew
    go_wp2_with fail
    refine hput.mono ?_
    rintro e w2 ⟨rfl, hM⟩
    obtain ⟨O2, hA2, hO2, hB2⟩ := Made.trans_below hB1 hO1 hM
    have hu := used_any w2 O2 ba 262144 L hA2
    rw [hus] at hu
    obtain ⟨U, hU⟩ : ∃ U, totalA t = U := ⟨_, rfl⟩
    rw [hU] at hu hus htot
    clear hput hM hU
    go_wp2_with fail
    refine hu.mono ?_
    rintro e w3 ⟨rfl, hb3⟩
    have hA3 := hA2.below hb3
    have hB3 := below_then hB2 hb3
    have hcn := count_any n 60 w3 (by omega) (by omega) HN.out
    clear hu hb3 hA2 hB2
    go_wp2_with fail
    refine hcn.mono ?_
    rintro e w4 ⟨N, hN, rfl, rfl⟩
    have HS := Lib.hid (⟨⟨O2, L, t, hA3, hO2, hB3, hf, htl, by omega, by rw [Nat.min_eq_left (by omega)]⟩⟩ : ShNow w w3 U 0 ba X (t.length : Int))
    clear hcn hA3 hO2 hB3 hf htl hus hns hO1 hB1 hA1
    go_wp2_with fail
    go_loopw [6, 7, 9, 11] (fun x e sz i wr => ∃ (j : Nat) (xx s : Int), j ≤ N ∧ x = .int .u64 xx ∧ e = .int .i64 0 ∧ sz = .int .i64 s ∧ 0 ≤ s ∧ s ≤ 1025 ∧ i = .int .i64 (j : Int) ∧ Hid (ShNow w wr U j ba xx s)) (fun x e sz i wr => N - (intOf i).toNat)
    case atStart => exact ⟨0, X, t.length, Nat.zero_le _, rfl, rfl, rfl, by omega, by omega, rfl, HS⟩
    case round =>
      obtain ⟨j, x, s, hj, rfl, rfl, rfl, hs0, hs1, rfl, hS⟩ := hrel
      obtain ⟨O5, l5, T5, hA5, hO5, hB5, hf5, ht5, hu5, hs5⟩ := hS.out.is
      by_cases hlt : j < N
      · have htw := twice (room := 262144) hA5.wf hf5 ht5 (by omega) (by omega)
        have hBx := below_one wr (.cells #[.int .u64 x, .int .u64 x] 31)
        have htp : Calls Tryd.prog 19 #[.pointer (some ⟨ba, 0, none⟩), .slice (some ⟨wr.heap.size, 0, none⟩) 2 2] _ _ := tuple_any (wr.alloc (.cells #[.int .u64 x, .int .u64 x] 31)) O5 ba 262144 l5 [x, x] (some ⟨wr.heap.size, 0, none⟩) 2 (hA5.below hBx) (HT.out.below (below_then hB5 hBx)) (two_words (heap_new wr _)) (by simp) (fun p hp => by simp at hp; rw [hp]; exact hf5.2)
        have htp2 : Calls Tryd.prog 19 #[.pointer (some ⟨ba, 0, none⟩), .slice (some ⟨wr.heap.size, 0, none⟩) 2 2] (wr.alloc (.cells #[.int .u64 x, .int .u64 x] 31)) fun e w' => e = .returned (.tuple #[.int .u64 (holdX 262144 l5 (tupA 2) [x, x]), .int .i64 (holdE 262144 l5 (tupA 2) [x, x])]) ∧ Made (wr.alloc (.cells #[.int .u64 x, .int .u64 x] 31)) w' O5 ba 262144 (holdL 262144 l5 (tupA 2) [x, x]) := htp
        rw [htw.e] at htp2
        have HTW := Lib.hid htw
        have HB5 := Lib.hid (below_then hB5 hBx)
        obtain ⟨X2, hX2⟩ : ∃ X2, holdX 262144 l5 (tupA 2) [x, x] = X2 := ⟨_, rfl⟩
        obtain ⟨L2, hL2⟩ : ∃ L2, holdL 262144 l5 (tupA 2) [x, x] = L2 := ⟨_, rfl⟩
        rw [hX2, hL2] at htp2
        have HXL := Lib.hid (⟨hX2, hL2⟩ : holdX 262144 l5 (tupA 2) [x, x] = X2 ∧ holdL 262144 l5 (tupA 2) [x, x] = L2)
        have HS5 := Lib.hid hs5
        clear htp hX2 hL2 hs5 hS HS hBx hB5 hA5 htw
        go_wp2_with fail
        refine htp2.mono ?_
        rintro e w6 ⟨rfl, hM6⟩
        obtain ⟨O6, hA6, hO6, hB6⟩ := Made.trans_below HB5.out hO5 hM6
        have hN6 : ∀ s' : Int, s' = ((min (tupA 2 :: (T5 ++ T5)).length 1025 : Nat) : Int) → ShNow w w6 U (j + 1) ba X2 s' := fun s' hs' => by
          have e1 := HXL.out.1
          have e2 := HXL.out.2
          subst e1
          subst e2
          exact ⟨⟨O6, _, _, hA6, hO6, hB6, HTW.out.fx, HTW.out.tell, by rw [HTW.out.used, hu5]; omega, hs'⟩⟩
        have HN6 := Lib.hid hN6
        have hlen : (tupA 2 :: (T5 ++ T5)).length = 1 + 2 * T5.length := by simp; omega
        rw [hlen] at HN6
        clear hN6 hlen hA6 hM6 htp2
        by_cases hbig : 1024 < 1 + 2 * s
        · have hbb : decide ((1024 : Int) < 1 + 2 * s) = true := decide_eq_true hbig
          have HZ := Lib.hid (HN6.out 1025 (by have := HS5.out; omega))
          go_wp2
          go_roundw
          case rel => exact ⟨j + 1, X2, 1025, by omega, rfl, rfl, rfl, by omega, by omega, by go_num, HZ⟩
          case measure => simp [intOf]; omega
        · have hbb : decide ((1024 : Int) < 1 + 2 * s) = false := decide_eq_false hbig
          have HZ := Lib.hid (HN6.out (1 + 2 * s) (by have := HS5.out; omega))
          go_wp2
          go_roundw
          case rel => exact ⟨j + 1, X2, 1 + 2 * s, by omega, rfl, rfl, by go_num, by omega, by omega, by go_num, HZ⟩
          case measure => simp [intOf]; omega
      · obtain rfl : j = N := by omega
        obtain ⟨r5, hr5⟩ := tells_ok ht5 x (by simp)
        have hsz := size_any wr O5 ba 262144 l5 x hf5.2.1 hf5.2.2 hA5 (by rw [hr5]; rfl)
        rw [tells_size hA5.wf ht5, ← hs5] at hsz
        have hus := fun W (hB : Below wr.heap.size wr W) => used_any W O5 ba 262144 l5 (hA5.below hB)
        rw [hu5] at hus
        have w1' : ((U + 3 * j : Nat) : Int) = (U : Int) + 3 * (j : Int) := by omega
        rw [w1'] at hus
        have HUS := Lib.hid hus
        have HS5 := Lib.hid hs5
        have hbu : (((U : Int) + 3 * (j : Int)) != ((U : Int) + 3 * (j : Int))) = false := by simp
        clear hus w1' hs5 hS HS hr5 hlt hj
        go_wp2_with fail
        refine hsz.mono ?_
        rintro e w6 ⟨rfl, hb6⟩
        have hB6 := below_then hB5 hb6
        by_cases hle : T5.length ≤ 1024
        · have hg := get_fine w6 O5 ba 262144 l5 x T5 hf5.2.1 hf5.2.2 (hA5.below hb6) ht5 hle
          have hs6 : s = (T5.length : Int) := by rw [HS5.out, Nat.min_eq_left (by omega)]
          subst hs6
          have hbg : decide ((1024 : Int) < (T5.length : Int)) = false := decide_eq_false (by omega)
          clear hsz
          go_wp2_with fail
          refine hg.mono ?_
          rintro e w7 ⟨⟨A7, c7, rfl, _⟩, hb7⟩
          go_wp2_with fail
          refine (HUS.out w7 (below_then hb6 hb7)).mono ?_
          rintro e w8 ⟨rfl, hb8⟩
          have hB8 := below_then (below_then hB6 hb7) hb8
          go_wp2_with fail
          refine (known_any w8 (HT.out.below hB8) (Nat.le_trans h3 hB8.size)).mono ?_
          rintro e w9 ⟨rfl, hb9⟩
          go_wp2
          go_ret
          exact ⟨rfl, below_then hB8 hb9⟩
        · have hg := get_big w6 O5 ba 262144 l5 x T5 hf5.2.1 hf5.2.2 (hA5.below hb6) ht5 hle
          have hs6 : s = 1025 := by rw [HS5.out, Nat.min_eq_right (by omega)]; rfl
          subst hs6
          clear hsz
          go_wp2_with fail
          refine hg.mono ?_
          rintro e w7 ⟨rfl, hb7⟩
          go_wp2_with fail
          refine (HUS.out w7 (below_then hb6 hb7)).mono ?_
          rintro e w8 ⟨rfl, hb8⟩
          have hB8 := below_then (below_then hB6 hb7) hb8
          go_wp2_with fail
          refine (known_any w8 (HT.out.below hB8) (Nat.le_trans h3 hB8.size)).mono ?_
          rintro e w9 ⟨rfl, hb9⟩
          go_wp2
          go_ret
          exact ⟨rfl, below_then hB8 hb9⟩
  · have e0 : putE 262144 [] t = (rightE t).1 := by unfold putE; rw [if_pos he]
    rw [e0] at hput
    generalize putX 262144 [] t = X at *
    generalize putL 262144 [] t = L at *
    generalize (rightE t).1 = E at *
    have hb : (E != 0) = true := by simpa using he
    clear e0 he hnew
    go_wp2_with fail
    refine hput.mono ?_
    rintro e w2 ⟨rfl, hM⟩
    obtain ⟨O2, hA2, hO2, hB2⟩ := Made.trans_below hB1 hO1 hM
    go_wp2_with fail
    refine (known_any w2 (HT.out.below hB2) (Nat.le_trans h3 hB2.size)).mono ?_
    rintro e w3 ⟨rfl, hb3⟩
    go_wp2
    go_ret
    exact ⟨rfl, below_then hB2 hb3⟩
theorem shares_row (A : Option Addr) (cap : Nat) (t : List CellD) (n : Int) (w : World) (hT : TabsA w) (hcap : t.length ≤ cap) (hr : Reads w A t) (hs : ∀ j (h : j < t.length), WfC t[j]) (hy : t.length * 32 ≤ 140737488351232) (hn : (Lit.int .i64 n).wf = true) :
    Calls Tryd.prog 4 #[.slice A t.length cap, .int .i64 n] w fun e w' => e = .returned (.bool true) ∧ Below w.heap.size w w' :=
  shares_any w t A cap n hT hr hs (by omega) (by simp [Lit.wf, IntKind.min, IntKind.max] at hn; simp [IntKind.signed, IntKind.bits] at hn; omega)
end Go.Proofs.YtejcbpbhhofhlaaDoor.Tm
