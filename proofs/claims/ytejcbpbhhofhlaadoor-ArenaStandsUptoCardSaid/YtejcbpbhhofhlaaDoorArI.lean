/- arena.Tuple, Cons, Size; known. -/
import Derived.Test.YtejcbpbhhofhlaaDoorArH
namespace Go.Proofs.YtejcbpbhhofhlaaDoor.Tm
open Go.RowKit
set_option linter.unusedVariables false
set_option linter.unusedSimpArgs false

structure PutSpec (l : List ObjA) (t : List CellD) : Prop where
  ext : Ext l (putF l t).1
  wf : WfA (putF l t).1
  used : usedA (putF l t).1 = usedA l + totalA t
  fx : FindOk (putF l t).1 (putF l t).2.2
  tell : Tells (putF l t).1 [(putF l t).2.2] t
theorem put_spec {l : List ObjA} {t : List CellD} (hw : WfA l) (hg : Good t 1) (h0 : t.length ≠ 0) (hu : usedA l + totalA t ≤ 262144) : PutSpec l t := by
  have h := put_inv hw t [] (l, [], 0) 1 ⟨Ext.refl l, hw, fun p hp => (by cases hp), by simp [costs, totalA], .inl ⟨rfl, rfl, rfl⟩⟩ hg (by simpa using hu)
  rw [List.nil_append] at h
  obtain ⟨a, b, c, d, e⟩ := h
  rcases e with ⟨_, e, _⟩ | ⟨_, _, e⟩ | ⟨e1, e2, e3, _⟩
  · rw [e] at h0; exact absurd rfl h0
  · omega
  · refine ⟨a, b, ?_, e2, e3⟩
    rw [e1] at d
    simp only [costs, List.map_nil, List.sum_nil, Nat.add_zero] at d
    exact d
def tupA (n : Nat) : CellD := ⟨5, (n : Int), ⟨#[]⟩⟩
theorem tupA_ok {n : Nat} (h : n ≤ 255) : cellE (tupA n) = 0 ∧ kidsD (tupA n) = n ∧ WfC (tupA n) := by
  refine ⟨?_, ?_, by simp only [tupA]; omega, by simp only [tupA]; omega, by simp [tupA, ByteArray.size]⟩
  · simp [cellE, tupA, ByteArray.size]; omega
  · unfold kidsD tupA
    rw [if_neg (by simp), if_pos ⟨rfl, by simp, by simp; omega⟩]
    simp
theorem tupA_cost {n : Nat} : costC (tupA n) = 1 + n := by
  unfold costC tupA plainK
  rw [if_neg (by simp), if_neg (by simp), if_pos (by simp), if_pos (by simp)]
  simp [ByteArray.size]
set_option maxHeartbeats 1000000 in
theorem tuple_any (w : World) (O : Nat → Prop) (ba room : Nat) (l : List ObjA) (ws : List Int) (A : Option Addr) (cap : Nat) (h : ArAt w O ba room l) (hT : TabsA w) (hr : WReads w A ws) (hk : ws.length ≤ 255) (hR : ∀ p ∈ ws, 0 ≤ p ∧ p < 18446744073709551616) :
    Calls Tryd.prog 19 #[.pointer (some ⟨ba, 0, none⟩), .slice A ws.length cap] w fun e w' => e = .returned (.tuple #[.int .u64 (holdX room l (tupA ws.length) ws), .int .i64 (holdE room l (tupA ws.length) ws)]) ∧ Made w w' O ba room (holdL room l (tupA ws.length) ws) := by
  obtain ⟨k1, k2, k3⟩ := tupA_ok hk
  have hh := fun W (hB : Below w.heap.size w W) => hold_any W O ba room l (tupA ws.length) ws A cap (h.below hB) (hT.below hB) k3 k1 (hr.below hB) k2.symm hR
  have hcap := h.lims
  generalize holdX room l (tupA ws.length) ws = X at *
  generalize holdE room l (tupA ws.length) ws = E at *
  generalize holdL room l (tupA ws.length) ws = L at *
  simp only [tupA] at hh
  have hh := hh w (Below.refl _ _)
  obtain ⟨n, hn⟩ : ∃ n, ws.length = n := ⟨_, rfl⟩
  rw [hn] at hh hk ⊢
  have hb : decide ((255 : Int) < (n : Int)) = false := decide_eq_false (by omega)
  clear h hT hr hR k1 k2 k3 hn hcap
  go_enter Tryd.func19, Tryd.ntmps19
  go_wp2_with fail
  refine hh.mono ?_
  rintro e w1 ⟨rfl, hM⟩
  go_wp2
  go_ret2
  exact ⟨rfl, hM⟩
set_option maxHeartbeats 1000000 in
theorem size_any (w : World) (O : Nat → Prop) (ba room : Nat) (l : List ObjA) (x : Int) (h0 : 0 ≤ x) (h1 : x < 18446744073709551616) (h : ArAt w O ba room l) (hs : (seenA l x).isSome = true) :
    Calls Tryd.prog 20 #[.pointer (some ⟨ba, 0, none⟩), .int .u64 x] w fun e w' => e = .returned (.tuple #[.int .i64 (sizeA l x : Int), .int .i64 0]) ∧ Below w.heap.size w w' := by
  obtain ⟨⟨c, ps⟩, hs⟩ := Option.isSome_iff_exists.1 hs
  obtain ⟨k, hk⟩ := seen_find hs
  have hseen := seen_any w O ba room l x h0 h1 h
  rw [hs] at hseen
  clear hs
  go_enter Tryd.func20, Tryd.ntmps20
  go_wp2_with fail
  refine hseen.mono ?_
  rintro e w1 ⟨⟨A, cap, rfl, _⟩, hB⟩
  rw [cell_seen_agg]
  have hB2 := below_alloc' hB (.cells #[.int .i64 c.kind, .int .i64 c.n, .string c.text] 37)
  have hz := asize_any _ O ba room l x k h0 h1 (h.below hB2) hk
  obtain ⟨Z, hZ⟩ : ∃ Z, sizeA l x = Z := ⟨_, rfl⟩
  rw [hZ] at hz
  have HZ := Lib.hid hZ
  clear hZ
  go_wp2_with fail
  refine hz.mono ?_
  rintro e w2 ⟨rfl, hb⟩
  go_wp2
  go_ret2
  exact ⟨by rw [HZ.out]; rfl, below_then hB2 hb⟩
theorem get_fine (w : World) (O : Nat → Prop) (ba room : Nat) (l : List ObjA) (x : Int) (t : List CellD) (h0 : 0 ≤ x) (h1 : x < 18446744073709551616) (h : ArAt w O ba room l) (ht : Tells l [x] t) (hl : t.length ≤ 1024) :
    Calls Tryd.prog 12 #[.pointer (some ⟨ba, 0, none⟩), .int .u64 x] w fun e w' => (∃ A c, e = .returned (.tuple #[.slice A t.length c, .int .i64 0]) ∧ w'.ownsRow w.heap.size 37 3 (.slice A t.length c) t.length (encs t)) ∧ Below w.heap.size w w' := by
  refine (get_any w O ba room l x t h0 h1 h ht).mono ?_
  intro e w' h
  unfold IsGet at h
  rw [if_pos hl] at h
  exact h
theorem get_big (w : World) (O : Nat → Prop) (ba room : Nat) (l : List ObjA) (x : Int) (t : List CellD) (h0 : 0 ≤ x) (h1 : x < 18446744073709551616) (h : ArAt w O ba room l) (ht : Tells l [x] t) (hl : ¬ t.length ≤ 1024) :
    Calls Tryd.prog 12 #[.pointer (some ⟨ba, 0, none⟩), .int .u64 x] w fun e w' => e = .returned (.tuple #[.slice none 0 0, .int .i64 7]) ∧ Below w.heap.size w w' := by
  refine (get_any w O ba room l x t h0 h1 h ht).mono ?_
  intro e w' h
  unfold IsGet at h
  rw [if_neg hl] at h
  exact h

/-! known -/
def okT : ByteArray := ⟨#[111, 107]⟩
def knownT : List CellD := [⟨5, 2, ⟨#[]⟩⟩, ⟨2, 0, okT⟩, ⟨1, 5, ⟨#[]⟩⟩]
theorem ok_ok : okFrom okT 0 = true := by
  have h1 : badAt okT 0 = false := by decide +kernel
  have h2 : (Utf8.decode okT 0).2 = 1 := by decide +kernel
  have h3 : badAt okT 1 = false := by decide +kernel
  have h4 : (Utf8.decode okT 1).2 = 1 := by decide +kernel
  rw [okFrom, if_pos (by decide), if_neg (by simp [h1]), h2, show 0 + max 1 1 = 1 from rfl, okFrom, if_pos (by decide), if_neg (by simp [h3]), h4, okFrom, if_neg (by decide)]
theorem known_good : Good knownT 1 := by
  have e : cellE ⟨2, 0, okT⟩ = 0 := by simp [cellE, utf8B, ok_ok, show okT.size = 2 from rfl]
  refine ⟨by simp [cellE, ByteArray.size], by omega, e, by simp [kidsD], by simp [cellE, ByteArray.size], by simp [kidsD], ?_⟩
  simp [kidsD, Good]
theorem known_right : (rightE knownT).1 = 0 := by
  have e : cellE ⟨2, 0, okT⟩ = 0 := by simp [cellE, utf8B, ok_ok, show okT.size = 2 from rfl]
  have e1 : cellE ⟨5, 2, ⟨#[]⟩⟩ = 0 := by simp [cellE, ByteArray.size]
  have e2 : cellE ⟨1, 5, ⟨#[]⟩⟩ = 0 := by simp [cellE, ByteArray.size]
  rw [rightE, if_neg (by simp [knownT]), if_neg (by simp [knownT])]
  simp [knownT, rightL, e, e1, e2, kidsD]
theorem known_total : totalA knownT = 5 := by decide
theorem known_wfs : ∀ c ∈ knownT, WfC c := by
  intro c hc
  simp [knownT] at hc
  rcases hc with rfl | rfl | rfl <;> exact ⟨by decide, by decide, by decide⟩
theorem known_wf : ∀ j (h : j < knownT.length), WfC knownT[j] := fun j hj => known_wfs _ (List.getElem_mem _)
theorem known_reads {w : World} {g : Nat} {t : TypeId} {fr : Nat × Nat} (h : w.heap[g]? = some (.cells #[.int .i64 5, .int .i64 2, .string ⟨#[]⟩, .int .i64 2, .int .i64 0, .string okT, .int .i64 1, .int .i64 5, .string ⟨#[]⟩] t fr)) : Reads w (some ⟨g, 0, none⟩) knownT := by
  intro j hj
  have : j < 3 := hj
  match j, this with
  | 0, _ => exact ⟨g, 0, rfl, by simp [World.cell?, h, knownT], by simp [World.cell?, h, knownT], by simp [World.cell?, h, knownT]⟩
  | 1, _ => exact ⟨g, 0, rfl, by simp [World.cell?, h, knownT], by simp [World.cell?, h, knownT], by simp [World.cell?, h, knownT]⟩
  | 2, _ => exact ⟨g, 0, rfl, by simp [World.cell?, h, knownT], by simp [World.cell?, h, knownT], by simp [World.cell?, h, knownT]⟩
theorem Made.trans_below {w w' w'' : World} {O : Nat → Prop} {ba room : Nat} {l' : List ObjA} (hB : Below w.heap.size w w') (hO : ∀ k, O k → w.heap.size ≤ k) (h : Made w' w'' O ba room l') : ∃ O', ArAt w'' O' ba room l' ∧ (∀ k, O' k → w.heap.size ≤ k) ∧ Below w.heap.size w w'' := by
  obtain ⟨O', a1, a2, a3, a4⟩ := h
  have hs := hB.size
  refine ⟨O', a1, fun k hk => ?_, hB.trans (a4.below hs hO)⟩
  rcases a3 k hk with h | h
  · exact hO k h
  · omega
set_option maxHeartbeats 2000000 in
theorem known_any (w : World) (hT : TabsA w) (h3 : 3 ≤ w.heap.size) : Calls Tryd.prog 17 #[] w fun e w' => e = .returned (.bool true) ∧ Below w.heap.size w w' := by
  have e0 : putE 10 [] knownT = 0 := by
    unfold putE
    rw [if_neg (by rw [known_right]; simp), if_neg (by rw [known_total]; simp [usedA])]
  have e1 : putL 10 [] knownT = (putF [] knownT).1 := by unfold putL; rw [e0, if_pos rfl]
  have e2 : putX 10 [] knownT = (putF [] knownT).2.2 := by unfold putX; rw [e0, if_pos rfl]
  have hS := put_spec (l := []) WfA.nil known_good (by decide) (by rw [known_total]; simp [usedA])
  have hus : usedA (putF [] knownT).1 = 5 := by rw [hS.used, known_total]; rfl
  have HT := Lib.hid hT
  have HS := Lib.hid hS
  have HW : ∀ j (h : j < knownT.length), WfC knownT[j] := known_wf
  have hput := fun W (O : Nat → Prop) ba A (h : ArAt W O ba 10 []) (hT : TabsA W) (hr : Reads W A knownT) (hA : ∀ g o, A = some ⟨g, o, none⟩ → ¬ O g) => put_any W O ba 10 [] knownT A 3 h hT hr (fun _ => hA) HW (by decide)
  rw [e0, e1, e2] at hput
  have hS1 := hS.fx
  have hS2 := hS.tell
  have hS3 := hS.wf
  obtain ⟨L, hL⟩ : ∃ L, (putF [] knownT).1 = L := ⟨_, rfl⟩
  obtain ⟨X, hX⟩ : ∃ X, (putF [] knownT).2.2 = X := ⟨_, rfl⟩
  rw [hL, hX] at hput hS1 hS2
  rw [hL] at hus hS3
  have HP := Lib.hid hput
  have HF := Lib.hid hS1
  have HTl := Lib.hid hS2
  have HU := Lib.hid hus
  have hnew := new_any 10 w (by decide) h3
  clear e0 e1 e2 hS HS hput hS1 hS2 hus hL hX hT hS3
  go_enter Tryd.func17, Tryd.ntmps17
  go_wp2_with fail
  refine hnew.mono ?_
  rintro e w1 ⟨ba, O, rfl, hA1, hO1, hB1⟩
  have hB2 := below_alloc' hB1 (.cells #[.int .i64 5, .int .i64 2, .string ⟨#[]⟩, .int .i64 2, .int .i64 0, .string okT, .int .i64 1, .int .i64 5, .string ⟨#[]⟩] 37)
  have HB2 := Lib.hid hB2
  have hA2 := hA1.below (below_one w1 (.cells #[.int .i64 5, .int .i64 2, .string ⟨#[]⟩, .int .i64 2, .int .i64 0, .string okT, .int .i64 1, .int .i64 5, .string ⟨#[]⟩] 37))
  have hR2 := known_reads (heap_new w1 (.cells #[.int .i64 5, .int .i64 2, .string ⟨#[]⟩, .int .i64 2, .int .i64 0, .string okT, .int .i64 1, .int .i64 5, .string ⟨#[]⟩] 37))
  have hns : ∀ g o, some (⟨w1.heap.size, 0, none⟩ : Addr) = some ⟨g, o, none⟩ → ¬ O g := fun g o e ho => by
    cases e
    have := (hA1.lim _ ho).2
    omega
  have hput2 := HP.out _ O ba _ hA2 (HT.out.below hB2) hR2 hns
  have HR2 := Lib.hid hR2
  clear hA2 hnew hB2 hR2
  go_wp2_with fail
  refine hput2.mono ?_
  rintro e w2 ⟨rfl, hM⟩
  obtain ⟨O2, hA3, hO2a, hO2b, hF2⟩ := hM
  have hR3 := HR2.out.fr hF2 hns
  have hB3 : Below w.heap.size w w2 := HB2.out.trans (hF2.below HB2.out.size hO1)
  clear hput2 hF2 hO2a hO2b
  have hget := get_fine w2 O2 ba 10 L X knownT HF.out.2.1 HF.out.2.2 hA3 HTl.out (by decide)
  go_wp2_with fail
  refine hget.mono ?_
  rintro e w3 ⟨⟨A, cA, rfl, hrow⟩, hb3⟩
  have hB4 := below_then hB3 hb3
  have hsm := rsame_any (some ⟨w1.heap.size, 0, none⟩) A 3 cA knownT knownT w3 (hR3.below hb3) (Reads.of_row hrow) (by decide) (by decide)
  rw [show decide (knownT = knownT) = true by simp] at hsm
  go_wp2_with fail
  refine hsm.mono ?_
  rintro e w4 ⟨rfl, hb4⟩
  have hB5 := below_then hB4 hb4
  have hu := used_any w4 O2 ba 10 L (hA3.below (below_then hb3 hb4))
  rw [HU.out] at hu
  go_wp2_with fail
  refine hu.mono ?_
  rintro e w5 ⟨rfl, hb5⟩
  have hB6 := below_then hB5 hb5
  have hr := room_any w5 O2 ba 10 L (hA3.below (below_then (below_then hb3 hb4) hb5))
  rw [HU.out] at hr
  go_wp2_with fail
  refine hr.mono ?_
  rintro e w6 ⟨rfl, hb6⟩
  have hB7 := below_then hB6 hb6
  go_wp2
  go_ret
  exact ⟨rfl, hB7⟩
end Go.Proofs.YtejcbpbhhofhlaaDoor.Tm
