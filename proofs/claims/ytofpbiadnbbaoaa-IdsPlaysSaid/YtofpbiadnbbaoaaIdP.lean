/- layer 13: the reference's All: insertion into a rising list. -/
import Derived.Test.YtofpbiadnbbaoaaIdM
import Derived.Test.YtofpbiadnbbaoaaIdO
import Derived.Laws.AppendOwnNone
namespace Go.Proofs.Ytofpbiadnbbaoaa.Ids
open Go.RowKit
set_option linter.unusedVariables false
set_option linter.unusedSimpArgs false

theorem rising_iff : ∀ {l : List Int}, Rising l ↔ l.Pairwise (· < ·)
  | [] => by simp [Rising]
  | a :: l => by rw [List.pairwise_cons, ← rising_iff]; rfl
/-- x belongs at place k. -/
structure InsAt (cur : List Int) (x : Int) (k : Nat) : Prop where
  le : k ≤ cur.length
  low : ∀ j (h : j < cur.length), j < k → cur[j] < x
  high : ∀ j (h : j < cur.length), k ≤ j → x < cur[j]
theorem InsAt.rising {cur : List Int} {x : Int} {k : Nat} (h : InsAt cur x k) (hr : Rising cur) : Rising (cur.take k ++ [x] ++ cur.drop k) := by
  rw [rising_iff] at hr ⊢
  have h1 := hr.sublist (List.take_sublist k cur)
  have h2 := hr.sublist (List.drop_sublist k cur)
  have hlow : ∀ y ∈ cur.take k, y < x := by
    intro y hy
    obtain ⟨j, hj, e⟩ := List.getElem_of_mem hy
    rw [List.getElem_take] at e
    subst e
    simp at hj
    exact h.low j (by omega) (by omega)
  have hhigh : ∀ y ∈ cur.drop k, x < y := by
    intro y hy
    obtain ⟨j, hj, e⟩ := List.getElem_of_mem hy
    rw [List.getElem_drop] at e
    subst e
    simp at hj
    exact h.high (k + j) (by omega) (by omega)
  rw [List.append_assoc, List.pairwise_append]
  refine ⟨h1, ?_, ?_⟩
  · rw [List.singleton_append, List.pairwise_cons]
    exact ⟨hhigh, h2⟩
  · intro a ha b hb
    have := hlow a ha
    rcases List.mem_append.1 hb with hb | hb
    · simp at hb; omega
    · have := hhigh b hb; omega
theorem InsAt.mem {cur : List Int} {x : Int} {k : Nat} (y : Int) : y ∈ cur.take k ++ [x] ++ cur.drop k ↔ y = x ∨ y ∈ cur := by
  have e : y ∈ cur ↔ y ∈ cur.take k ∨ y ∈ cur.drop k := by rw [← List.mem_append, List.take_append_drop]
  rw [e]
  simp only [List.mem_append, List.mem_singleton]
  constructor
  · rintro ((h | h) | h)
    · exact .inr (.inl h)
    · exact .inl h
    · exact .inr (.inr h)
  · rintro (h | h | h)
    · exact .inl (.inr h)
    · exact .inl (.inl h)
    · exact .inr h
theorem InsAt.of_loop {cur : List Int} {x : Int} {k : Nat} (hr : Rising cur) (hx : x ∉ cur) (hk : k ≤ cur.length) (hh : ∀ j (h : j < cur.length), k ≤ j → x < cur[j]) (hl : k = 0 ∨ ∃ h : k - 1 < cur.length, cur[k - 1] ≤ x) : InsAt cur x k := by
  refine ⟨hk, fun j hj hjk => ?_, hh⟩
  rcases hl with rfl | ⟨h, hl⟩
  · omega
  · have hne : cur[j] ≠ x := fun e => hx (e ▸ List.getElem_mem hj)
    have : cur[j] ≤ cur[k - 1] := by
      by_cases e : j = k - 1
      · subst e; exact Int.le_refl _
      · have := List.pairwise_iff_getElem.1 (rising_iff.1 hr) j (k - 1) hj h (by omega)
        omega
    omega
/-- The live pids of the first i places, rising. -/
structure Upto (l : List (Int × Bool)) (i : Nat) (cur : List Int) : Prop where
  room : cur.length ≤ i
  up : Rising cur
  mem : ∀ x, x ∈ cur ↔ IsPid l i x
theorem Upto.skip {l : List (Int × Bool)} {i : Nat} {cur : List Int} (h : Upto l i cur) (hi : i < l.length) (ht : (l[i]).2 = false) : Upto l (i + 1) cur :=
  ⟨by have := h.room; omega, h.up, fun x => (h.mem x).trans ⟨fun a => a.succ, fun a => by
    rcases a.cases with b | ⟨_, b, _⟩
    · exact b
    · rw [ht] at b; exact absurd b (by simp)⟩⟩
theorem Upto.notin {l : List (Int × Bool)} {i : Nat} {cur : List Int} (h : Upto l i cur) (hl : l.length = 64) (hi : i < l.length) (hp : ∀ p ∈ l, 0 ≤ p.1) : (l[i]).1 * 64 + i + 1 ∉ cur := by
  intro hm
  obtain ⟨j, hj, hji, _, e⟩ := (h.mem _).1 hm
  omega
theorem Upto.ins {l : List (Int × Bool)} {i : Nat} {cur : List Int} {k : Nat} (h : Upto l i cur) (hi : i < l.length) (ht : (l[i]).2 = true) (hk : InsAt cur ((l[i]).1 * 64 + i + 1) k) : Upto l (i + 1) (cur.take k ++ [(l[i]).1 * 64 + i + 1] ++ cur.drop k) := by
  refine ⟨?_, hk.rising h.up, fun x => ?_⟩
  · have := h.room
    have := hk.le
    simp
    omega
  · rw [InsAt.mem, h.mem]
    constructor
    · rintro (rfl | a)
      · exact ⟨i, hi, by omega, ht, rfl⟩
      · exact a.succ
    · intro a
      rcases a.cases with b | ⟨_, _, b⟩
      · exact .inr b
      · exact .inl b
theorem Upto.all {l : List (Int × Bool)} {cur : List Int} (h : Upto l 64 cur) : AllOf l cur := ⟨h.room, h.up, h.mem⟩

theorem row_mono {w : World} {base base' n : Nat} {e : TypeId} {size : Nat} {v : Value} {xs : List Value} (h : w.ownsRow base e size v n xs) (hb : base' ≤ base) : w.ownsRow base' e size v n xs :=
  ⟨h.1, h.2.imp id (fun ⟨g, cap, cur, a, b, r⟩ => ⟨g, cap, cur, a, by omega, r⟩)⟩
theorem row_lt {w : World} {base n : Nat} {e : TypeId} {size : Nat} {v : Value} {xs : List Value} (h : w.ownsRow base e size v n xs) (k : Nat) (hk : v.ownBlock = some k) : k < w.heap.size := by
  rcases h.2 with ⟨rfl, _⟩ | ⟨g, cap, cur, rfl, hb, hh, _⟩
  · simp [Value.ownBlock] at hk
  · have : g = k := by simpa [Value.ownBlock] using hk
    subst this
    exact lt_of_block hh
theorem own_nil' (W : World) (base : Nat) (e : TypeId) (size : Nat) : W.ownsRow base e size (.slice none 0 0) 0 [] := ⟨by simp, .inl ⟨rfl, rfl⟩⟩

theorem one_ints (l : List Int) : ∀ u ∈ l.map (Value.int .i64), u.oneCell' = true := by
  intro u hu
  obtain ⟨x, _, rfl⟩ := List.mem_map.1 hu
  rfl
theorem cellsTake {wr : World} {base n g' cap' : Nat} {cur : List Int} (hown : wr.ownsRow base 2 1 (.slice (some ⟨g', 0, none⟩) n cap') n (cur.map (Value.int .i64))) (q : Nat) (hq : q ≤ n) :
    ∀ j u, ((cur.take q).map (Value.int .i64))[j]? = some u → wr.cell? ((⟨g', 0, none⟩ : Addr).add j) = some u := by
  intro j u hj
  have hl : cur.length = n := by have := hown.1; simpa using this
  have hjq : j < q := by
    have := (List.getElem?_eq_some_iff.1 hj).1
    simp at this; omega
  have e : ((⟨g', 0, none⟩ : Addr).add j) = ⟨g', j, none⟩ := by unfold Addr.add; split <;> simp_all
  rw [e, hown.cellAt j (by omega), ← hj]
  simp [hjq]
theorem cellsDrop {wr : World} {base n g' cap' : Nat} {cur : List Int} (hown : wr.ownsRow base 2 1 (.slice (some ⟨g', 0, none⟩) n cap') n (cur.map (Value.int .i64))) (q : Nat) :
    ∀ j u, ((cur.drop q).map (Value.int .i64))[j]? = some u → wr.cell? ((⟨g', q, none⟩ : Addr).add j) = some u := by
  intro j u hj
  have hl : cur.length = n := by have := hown.1; simpa using this
  have hjq : j < n - q := by
    have := (List.getElem?_eq_some_iff.1 hj).1
    simp at this; omega
  have e : ((⟨g', q, none⟩ : Addr).add j) = ⟨g', q + j, none⟩ := by unfold Addr.add; split <;> simp_all
  rw [e, hown.cellAt (q + j) (by omega), ← hj]
  simp [List.getElem?_drop]
theorem kept3 {wr w1 w2 : World} {base n m g' cap' : Nat} {xs xs1 : List Value} {v1 : Value} {o : Obj} (hown : wr.ownsRow base 2 1 (.slice (some ⟨g', 0, none⟩) n cap') n xs) (h1 : wr.grownBy w1 none)
    (hown1 : w1.ownsRow wr.heap.size 2 1 v1 m xs1) (h2 : (w1.alloc o).grownBy w2 v1.ownBlock) : w2.ownsRow base 2 1 (.slice (some ⟨g', 0, none⟩) n cap') n xs := by
  have hlt := row_lt hown g' rfl
  refine ((hown.kept h1 (by simp [Value.ownBlock])).alloc o).kept h2 (.inr fun e => ?_)
  have := row_base hown1 g' e.symm
  omega
theorem below3 {w wr w1 w2 w3 : World} {m1 m2 : Nat} {xs1 xs2 : List Value} {v1 v2 : Value} {o : Obj} (hB : Below w.heap.size w wr) (h1 : wr.grownBy w1 none) (hown1 : w1.ownsRow wr.heap.size 2 1 v1 m1 xs1) (h2 : (w1.alloc o).grownBy w2 v1.ownBlock)
    (hown2 : w2.ownsRow wr.heap.size 2 1 v2 m2 xs2) (h3 : w2.grownBy w3 v2.ownBlock) : Below w.heap.size w w3 := by
  have b1 := hB.grown h1 hB.size (fun k e => by simp at e)
  have b2 := (below_alloc' b1 o).grown h2 (below_alloc' b1 o).size (fun k e => Nat.le_trans hB.size (row_base hown1 k e))
  exact b2.grown h3 b2.size (fun k e => Nat.le_trans hB.size (row_base hown2 k e))
theorem fin3 {w3 : World} {base base' q : Nat} {v3 : Value} {cur : List Int} {X : Int} {L : Nat} {xs : List Value} (h : w3.ownsRow base' 2 1 v3 L xs) (hL : L = q + 1 + (cur.length - q)) (hq : q ≤ cur.length)
    (hx : xs = (cur.take q).map (Value.int .i64) ++ [.int .i64 X] ++ (cur.drop q).map (Value.int .i64)) (hb : base ≤ base') :
    w3.ownsRow base 2 1 v3 (cur.take q ++ [X] ++ cur.drop q).length ((cur.take q ++ [X] ++ cur.drop q).map (Value.int .i64)) := by
  have e1 : (cur.take q ++ [X] ++ cur.drop q).length = L := by simp; omega
  have e2 : (cur.take q ++ [X] ++ cur.drop q).map (Value.int .i64) = xs := by rw [hx]; simp
  rw [e1, e2]
  exact row_mono h hb

set_option maxHeartbeats 2000000 in
set_option maxRecDepth 100000 in
theorem rAll_any (b : Nat) (l : List (Int × Bool)) (hI : PInv l) (w : World) (h : RAt w b l) :
    Calls Try.prog 43 #[.pointer (some ⟨b, 0, none⟩)] w fun e W' => ∃ v ys, e = .returned v ∧ W'.ownsRow w.heap.size 2 1 v ys.length (ys.map (Value.int .i64)) ∧ AllOf l ys ∧ Below w.heap.size w W' := by
  have hlen := Lib.hid h.len
  obtain ⟨i0, hi, hz0, hz1, hz2⟩ := info_parts Try.info2
  go_enter Try.func43, Try.ntmps43
  go_wp2_with fail
  go_loopw [3, 4] (fun v i wr => ∃ (k : Nat) (cur : List Int), k ≤ 64 ∧ i = .int .i64 k ∧ wr.ownsRow w.heap.size 2 1 v cur.length (cur.map (Value.int .i64)) ∧ Hid (cur = [] → v = .slice none 0 0) ∧ Hid (Upto l k cur) ∧ Below w.heap.size w wr) (fun v i wr => 64 - (intOf i).toNat)
  case atStart => exact ⟨0, [], by omega, rfl, own_nil' _ _ _ _, fun _ => rfl, ⟨by simp, trivial, fun x => by simp; rintro ⟨j, _, h, _⟩; omega⟩, Below.refl _ _⟩
  case round =>
    obtain ⟨k, cur, hk, rfl, hown, hnil, hU, hB⟩ := hrel
    by_cases hlt : k < 64
    · have hkl : k < l.length := by rw [hlen.out]; exact hlt
      have hR := h.below hB
      have c0 := hR.gen k hkl
      have c1 := hR.taken k hkl
      have hmk := mkP_live hI k hkl
      have hskip := fun e => Upto.skip hU hkl e
      have hnot := Upto.notin hU hI.len hkl hI.pos
      have hins : ∀ q, (l[k]).2 = true → InsAt cur ((l[k]).1 * 64 + k + 1) q → Upto l (k + 1) (cur.take q ++ [(l[k]).1 * 64 + k + 1] ++ cur.drop q) := fun q e hq => Upto.ins hU hkl e hq
      generalize hgt : l[k] = p at c0 c1 hmk hskip hnot hins
      obtain ⟨g, t⟩ := p
      simp only at c0 c1 hmk hskip hnot hins
      have HM := Lib.hid hmk
      have HS := Lib.hid hskip
      have HN := Lib.hid hnot
      have HI := Lib.hid hins
      clear hmk hskip hnot hins hgt
      cases t with
      | false =>
        go_wp2
        go_roundw
        case rel => exact ⟨k + 1, cur, by omega, by go_num, hown, hnil, HS.out (by simp), hB⟩
        case measure => simp [intOf]; omega
      | true =>
        go_wp2_with fail
        refine (refMake_any _ _ _).mono ?_
        rintro e w' ⟨rfl, rfl⟩
        rw [HM.out (by simp)]
        generalize hX : g * 64 + (k : Int) + 1 = X at HN HI ⊢
        clear hX
        have hcl : cur.length ≤ k := hU.out.room
        have Ra := own_nil' (wr.alloc (.cells #[.int .i64 X] 2)) wr.heap.size 2 1
        by_cases hc0 : cur = []
        · subst hc0
          have hv := hnil.out rfl
          subst hv
          have hins0 : InsAt [] X 0 := ⟨by simp, by simp, by simp⟩
          go_wp2_with fail
          refine wp_loop_rounds 1 ?_
          rw [rounds_succ]
          go_wp2_with (first
            | (at_builtin; refine wpList_append_own_none rfl (.tmp 46) (.tmp 49) 52 rfl wr.heap.size 2 i0 1 Try.underlying52 hi _ _ _ rfl (own_nil' _ _ _ _) rfl ?_)
            | (at_builtin; refine wpList_append_own _ rfl (.tmp 51) (.tmp 53) 52 rfl wr.heap.size 2 i0 (.int .i64 0) 1 8 Try.underlying52 hi hz0 hz1 hz2 rfl (by decide) _ _ _ rfl (own_nil' _ _ _ _) ⟨wr.heap.size, 0, none⟩ 1 1 [.int .i64 X] rfl rfl (cell_one_new _ _ _) (by simp [Value.oneCell']) (by unfold maxLen; omega) (by omega) (by simp) ?_; intro v4 w4 hown4 hgrow4 _; simp only [Nat.zero_add, List.nil_append] at hown4)
            | (at_builtin; refine wpList_append_own_none rfl (.tmp 55) (.tmp 58) 52 rfl wr.heap.size 2 i0 1 Try.underlying52 hi _ _ _ rfl (by assumption) rfl ?_))
          go_roundw
          case rel => exact ⟨k + 1, [X], by omega, by go_num, row_mono hown4 hB.size, fun e => by simp at e, HI.out 0 trivial hins0, (below_alloc' hB _).grown hgrow4 (below_alloc' hB _).size (fun q hq => absurd (show (none : Option Nat) = some q from hq) (by simp))⟩
          case measure => simp [intOf]; omega
        · have hpos : 0 < cur.length := List.length_pos_iff.2 hc0
          obtain ⟨g', cap', rfl, hcap⟩ : ∃ g' cap', u3 = .slice (some ⟨g', 0, none⟩) cur.length cap' ∧ cur.length ≤ cap' := by
            rcases hown.2 with ⟨_, h0⟩ | ⟨g', cap', _, e, _, _, hc, _⟩
            · omega
            · exact ⟨g', cap', e, hc⟩
          have hcell : ∀ j (hj : j < cur.length), wr.cell? ⟨g', j, none⟩ = some (.int .i64 cur[j]) := by
            intro j hj
            rw [hown.cellAt j (by omega)]
            simp [hj]
          have hrise := hU.out.up
          have HC := Lib.hid hcell
          clear hcell hc0
          go_wp2_with fail
          go_loop [7] (fun i => ∃ q : Nat, q ≤ cur.length ∧ i = .int .i64 q ∧ Hid (∀ j (hj : j < cur.length), q ≤ j → X < cur[j])) (fun i => (intOf i).toNat)
          case atStart => exact ⟨cur.length, Nat.le_refl _, rfl, fun j hj h' => absurd hj (by omega)⟩
          case round =>
            obtain ⟨q, hq, rfl, hhigh⟩ := hrel
            by_cases hcont : ∃ q', q = q' + 1 ∧ ∃ h : q' < cur.length, X < cur[q']
            · obtain ⟨q', rfl, hq', hgt⟩ := hcont
              have hc1 := HC.out q' hq'
              generalize hy : cur[q'] = y at hc1 hgt
              have HY := Lib.hid hy
              clear hy
              go_wp2
              go_round
              case rel => exact ⟨q', by omega, by go_num, fun j hj hjq => by
                rcases Nat.lt_or_ge q' j with e | e
                · exact hhigh.out j hj e
                · obtain rfl : j = q' := by omega
                  rw [HY.out]; exact hgt⟩
              case measure => simp [intOf]
            · have hInsAt : InsAt cur X q := InsAt.of_loop hrise HN.out hq hhigh.out (by
                rcases Nat.eq_zero_or_pos q with e | e
                · exact .inl e
                · refine .inr ⟨by omega, ?_⟩
                  rcases Int.lt_or_le X cur[q - 1] with h1 | h1
                  · exact absurd ⟨q - 1, by omega, by omega, h1⟩ hcont
                  · exact h1)
              have HIns := Lib.hid (HI.out q (by simp) hInsAt)
              have hne : cur.take q ++ [X] ++ cur.drop q ≠ [] := by simp
              have hstop : q = 0 ∨ ∃ q', q = q' + 1 ∧ ∃ y, wr.cell? ⟨g', q', none⟩ = some (.int .i64 y) ∧ y ≤ X := by
                rcases Nat.eq_zero_or_pos q with e | e
                · exact .inl e
                · refine .inr ⟨q - 1, by omega, cur[q - 1], HC.out (q - 1) (by omega), ?_⟩
                  rcases Int.lt_or_le X cur[q - 1] with h1 | h1
                  · exact absurd ⟨q - 1, by omega, by omega, h1⟩ hcont
                  · exact h1
              have HT := Lib.hid (cellsTake hown q hq)
              have hB' := hB.size
              clear hcont hhigh hInsAt hne
              by_cases hqc : cap' = q
              · have hqn : q = cur.length := by omega
                have hnn : cur.length - q = 0 := by omega
                have hdr : cur.drop q = [] := by rw [hqn]; simp
                have HDR := Lib.hid hdr
                subst hqc
                clear hdr hqn
                rcases hstop with rfl | ⟨q', rfl, y, hy, hle⟩
                · omega
                go_wp2_with (first
                    | (at_builtin; refine wpList_append_own _ rfl (.tmp 46) (.tmp 49) 52 rfl wr.heap.size 2 i0 (.int .i64 0) 1 8 Try.underlying52 hi hz0 hz1 hz2 rfl (by decide) _ _ _ rfl (own_nil' _ _ _ _) ⟨g', 0, none⟩ _ _ _ rfl (by first | (simp; done) | (simp; omega)) HT.out (one_ints _) (by unfold maxLen; omega) (by omega) (Nat.le_refl _) ?_; intro v1 w1 hown1 hgrow1 _; simp only [Nat.zero_add, List.nil_append] at hown1; have hs1 := hgrow1.size)
                    | (at_builtin; refine wpList_append_own _ rfl (.tmp 51) (.tmp 53) 52 rfl wr.heap.size 2 i0 (.int .i64 0) 1 8 Try.underlying52 hi hz0 hz1 hz2 rfl (by decide) _ _ _ rfl (hown1.alloc _) ⟨w1.heap.size, 0, none⟩ 1 1 [.int .i64 X] rfl rfl (cell_one_new _ _ _) (by simp [Value.oneCell']) (by unfold maxLen; omega) (by omega) (by simp; omega) ?_; intro v2 w2 hown2 hgrow2 _; have hs2 := hgrow2.size; rw [World.size_alloc] at hs2)
                    | (at_builtin; refine wpList_append_own _ rfl (.tmp 55) (.tmp 58) 52 rfl wr.heap.size 2 i0 (.int .i64 0) 1 8 Try.underlying52 hi hz0 hz1 hz2 rfl (by decide) _ _ _ rfl hown2 ⟨g', _, none⟩ 0 _ [] rfl rfl (fun j u hj => by simp at hj) (fun u hu => by simp at hu) (by unfold maxLen; omega) (by omega) (by omega) ?_; intro v3 w3 hown3 hgrow3 _))
                go_roundw
                case rel =>
                  refine ⟨k + 1, _, by omega, by go_num, ?_, ?_, HIns, below3 hB (show wr.grownBy w1 none from hgrow1) hown1 hgrow2 hown2 hgrow3⟩
                  · exact fin3 hown3 (by omega) hq (by rw [HDR.out]; rfl) hB'
                  · exact fun e => absurd e (by simp)
                case measure => simp [intOf]; omega
              · have hqc' : q < cap' := by omega
                clear hqc
                rcases hstop with rfl | ⟨q', rfl, y, hy, hle⟩
                all_goals
                  go_wp2_with (first
                    | (at_builtin; refine wpList_append_own _ rfl (.tmp 46) (.tmp 49) 52 rfl wr.heap.size 2 i0 (.int .i64 0) 1 8 Try.underlying52 hi hz0 hz1 hz2 rfl (by decide) _ _ _ rfl (own_nil' _ _ _ _) ⟨g', 0, none⟩ _ cap' _ rfl (by first | (simp; done) | (simp; omega)) HT.out (one_ints _) (by unfold maxLen; omega) (by omega) (Nat.le_refl _) ?_; intro v1 w1 hown1 hgrow1 _; simp only [Nat.zero_add, List.nil_append] at hown1; have hs1 := hgrow1.size)
                    | (at_builtin; refine wpList_append_own _ rfl (.tmp 51) (.tmp 53) 52 rfl wr.heap.size 2 i0 (.int .i64 0) 1 8 Try.underlying52 hi hz0 hz1 hz2 rfl (by decide) _ _ _ rfl (hown1.alloc _) ⟨w1.heap.size, 0, none⟩ 1 1 [.int .i64 X] rfl rfl (cell_one_new _ _ _) (by simp [Value.oneCell']) (by unfold maxLen; omega) (by omega) (by simp; omega) ?_; intro v2 w2 hown2 hgrow2 _; have hs2 := hgrow2.size; rw [World.size_alloc] at hs2; have hk3 := kept3 hown (show wr.grownBy w1 none from hgrow1) hown1 hgrow2)
                    | (at_builtin; refine wpList_append_own _ rfl (.tmp 55) (.tmp 58) 52 rfl wr.heap.size 2 i0 (.int .i64 0) 1 8 Try.underlying52 hi hz0 hz1 hz2 rfl (by decide) _ _ _ rfl hown2 ⟨g', _, none⟩ _ _ _ rfl (by first | (simp; done) | (simp; omega)) (cellsDrop hk3 _) (one_ints _) (by unfold maxLen; omega) (by omega) (by omega) ?_; intro v3 w3 hown3 hgrow3 _))
                all_goals
                  go_roundw
                  case rel =>
                    refine ⟨k + 1, _, by omega, by go_num, ?_, ?_, HIns, below3 hB (show wr.grownBy w1 none from hgrow1) hown1 hgrow2 hown2 hgrow3⟩
                    · exact fin3 hown3 (by omega) hq (by simp) hB'
                    · exact fun e => absurd e (by simp)
                  case measure => simp [intOf]; omega
    · obtain rfl : k = 64 := by omega
      go_wp2
      go_ret
      exact ⟨_, cur, rfl, hown, hU.out.all, hB⟩
end Go.Proofs.Ytofpbiadnbbaoaa.Ids
