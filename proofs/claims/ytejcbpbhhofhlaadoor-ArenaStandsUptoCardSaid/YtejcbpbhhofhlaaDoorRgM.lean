/- Layer 3's law: both arenas step by step; picks in memory. -/
import Derived.Test.YtejcbpbhhofhlaaDoorRgL
import Derived.Test.YtejcbpbhhofhlaaDoorRgH
import Derived.Test.YtejcbpbhhofhlaaDoorRgD
namespace Go.Proofs.YtejcbpbhhofhlaaDoor.Tm
open Go.RowKit
set_option linter.unusedVariables false
set_option linter.unusedSimpArgs false

structure Both (w : World) (O OR : Nat → Prop) (ba ra room : Nat) (L : List ObjA) : Prop where
  ar : ArAt w O ba room L
  rf : RfAt w OR ra room (refOf L)
  oo : ∀ k, O k → ¬ OR k
  cells : ∀ o ∈ L, WfC o.cell
/-- Where the arenas stand behind a call: the reference may lag. -/
structure Lag (w w' : World) (O OR O' OR' : Nat → Prop) (ba ra room : Nat) (L : List ObjA) (R : List ObjR) : Prop where
  ar : ArAt w' O' ba room L
  rf : RfAt w' OR' ra room R
  oo : ∀ k, O' k → ¬ OR' k
  a1 : ∀ k, O k → O' k
  a2 : ∀ k, O' k → O k ∨ w.heap.size ≤ k
  b1 : ∀ k, OR k → OR' k
  b2 : ∀ k, OR' k → OR k ∨ w.heap.size ≤ k
  fr : Fr (fun k => O k ∨ OR k) w w'
theorem Both.lag {w : World} {O OR : Nat → Prop} {ba ra room : Nat} {L : List ObjA} (h : Both w O OR ba ra room L) {w' : World} (hB : Below w.heap.size w w') : Lag w w' O OR O OR ba ra room L (refOf L) :=
  ⟨h.ar.below hB, h.rf.below hB, h.oo, fun _ h => h, fun _ h => .inl h, fun _ h => h, fun _ h => .inl h, Fr.of_below hB⟩
theorem Lag.below {w w' w'' : World} {O OR O' OR' : Nat → Prop} {ba ra room : Nat} {L : List ObjA} {R : List ObjR} (h : Lag w w' O OR O' OR' ba ra room L R) (hB : Below w'.heap.size w' w'') : Lag w w'' O OR O' OR' ba ra room L R :=
  ⟨h.ar.below hB, h.rf.below hB, h.oo, h.a1, h.a2, h.b1, h.b2, fr_below h.fr hB⟩
theorem Lag.made {w w' w'' : World} {O OR O' OR' : Nat → Prop} {ba ra room : Nat} {L L' : List ObjA} {R : List ObjR} (h : Lag w w' O OR O' OR' ba ra room L R) (hM : Made w' w'' O' ba room L') : ∃ O2, Lag w w'' O OR O2 OR' ba ra room L' R := by
  obtain ⟨O2, m1, m2, m3, m4⟩ := hM
  have hs := h.fr.size
  refine ⟨O2, m1, h.rf.fr m4 (fun k hk ho => h.oo k ho hk), fun k hk hr => ?_, fun k hk => m2 k (h.a1 k hk), fun k hk => ?_, h.b1, h.b2, h.fr.trans' m4 fun i hi ho => ?_⟩
  · rcases m3 k hk with h' | h'
    · exact h.oo k h' hr
    · have := (h.rf.lim k hr).2; omega
  · rcases m3 k hk with h' | h'
    · exact h.a2 k h'
    · exact .inr (by omega)
  · rcases h.a2 i ho with h' | h'
    · exact .inl h'
    · omega
theorem Lag.rmade {w w' w'' : World} {O OR O' OR' : Nat → Prop} {ba ra room : Nat} {L : List ObjA} {R R' : List ObjR} (h : Lag w w' O OR O' OR' ba ra room L R) (hM : RMade w' w'' OR' NoX ra room R') : ∃ OR2, Lag w w'' O OR O' OR2 ba ra room L R' := by
  obtain ⟨O2, m1, m2, m3, m4⟩ := hM
  have hs := h.fr.size
  have m3' : ∀ k, O2 k → OR' k ∨ w'.heap.size ≤ k := fun k hk => by
    rcases m3 k hk with h | h | h
    · exact .inl h
    · exact absurd h id
    · exact .inr h
  refine ⟨O2, h.ar.fr m4 (fun k hk ho => h.oo k hk ho), m1, fun k hk hr => ?_, h.a1, h.a2, fun k hk => m2 k (h.b1 k hk), fun k hk => ?_, h.fr.trans' m4 fun i hi ho => ?_⟩
  · rcases m3' k hr with h' | h'
    · exact h.oo k hk h'
    · have := (h.ar.lim k hk).2; omega
  · rcases m3' k hk with h' | h'
    · exact h.b2 k h'
    · exact .inr (by omega)
  · rcases h.b2 i ho with h' | h'
    · exact .inr h'
    · omega
structure PickD where
  raw : Bool
  n : Int
  x : Int
def PickD.ok (p : PickD) : Prop := (-9223372036854775808 ≤ p.n ∧ p.n < 9223372036854775808) ∧ 0 ≤ p.x ∧ p.x < 18446744073709551616
def PReads (w : World) (A : Option Addr) (l : List PickD) : Prop := ∀ j (h : j < l.length), ∃ b o, A = some ⟨b, o, none⟩ ∧ w.cell? ⟨b, o + j * 3, none⟩ = some (.bool (l[j]).raw) ∧ w.cell? ⟨b, o + j * 3 + 1, none⟩ = some (.int .i64 (l[j]).n) ∧ w.cell? ⟨b, o + j * 3 + 2, none⟩ = some (.int .u64 (l[j]).x)
def encP (l : List PickD) : List Value := l.flatMap fun p => [.bool p.raw, .int .i64 p.n, .int .u64 p.x]
theorem encP_len (l : List PickD) : (encP l).length = l.length * 3 := by
  unfold encP
  induction l with
  | nil => rfl
  | cons a l ih => simp at ih ⊢; omega
theorem encP_at : ∀ (l : List PickD) (j : Nat) (h : j < l.length), (encP l)[j * 3]? = some (.bool (l[j]).raw) ∧ (encP l)[j * 3 + 1]? = some (.int .i64 (l[j]).n) ∧ (encP l)[j * 3 + 2]? = some (.int .u64 (l[j]).x)
  | [], j, h => absurd h (Nat.not_lt_zero j)
  | a :: l, j, h => by
    have e : encP (a :: l) = .bool a.raw :: .int .i64 a.n :: .int .u64 a.x :: encP l := rfl
    rw [e]
    cases j with
    | zero => exact ⟨rfl, rfl, rfl⟩
    | succ j =>
      have := encP_at l j (by simpa using h)
      have e3 : (j + 1) * 3 = j * 3 + 1 + 1 + 1 := by omega
      rw [e3]
      simpa using this
theorem PReads.below {w W : World} {A : Option Addr} {l : List PickD} (h : PReads w A l) (hB : Below w.heap.size w W) : PReads W A l := fun j hj => by
  obtain ⟨b, o, e, h0, h1, h2⟩ := h j hj
  exact ⟨b, o, e, cell_below hB h0, cell_below hB h1, cell_below hB h2⟩
theorem PReads.take {w : World} {A : Option Addr} {l : List PickD} (h : PReads w A l) (m : Nat) : PReads w A (l.take m) := fun j hj => by
  obtain ⟨b, o, e, hc⟩ := h j (by simp at hj; omega)
  exact ⟨b, o, e, by rw [List.getElem_take]; exact hc⟩
theorem PReads.of_row {w : World} {base cap : Nat} {A : Option Addr} {e : TypeId} {l : List PickD} (h : w.ownsRow base e 3 (.slice A l.length cap) l.length (encP l)) : PReads w A l := by
  intro j hj
  rcases h.2 with ⟨h', h0⟩ | ⟨g, cap', cur, h', _⟩
  · omega
  · obtain ⟨rfl, rfl⟩ : A = some ⟨g, 0, none⟩ ∧ cap = cap' := by simpa using h'
    obtain ⟨e0, e1, e2⟩ := encP_at l j hj
    refine ⟨g, 0, rfl, ?_, ?_, ?_⟩
    · rw [Nat.zero_add, h.cellAt _ (by omega)]; exact e0
    · rw [Nat.zero_add, h.cellAt _ (by omega)]; exact e1
    · rw [Nat.zero_add, h.cellAt _ (by omega)]; exact e2
theorem PReads.flat {w : World} {b o : Nat} {l : List PickD} (h : PReads w (some ⟨b, o, none⟩) l) : ∀ j u, (encP l)[j]? = some u → w.cell? ((⟨b, o, none⟩ : Addr).add j) = some u := by
  intro j u hj
  have hlt : j < (encP l).length := (List.getElem?_eq_some_iff.1 hj).1
  rw [encP_len] at hlt
  have e : ((⟨b, o, none⟩ : Addr).add j) = ⟨b, o + j, none⟩ := by unfold Addr.add; split <;> simp_all
  rw [e]
  obtain ⟨b', o', e', h0, h1, h2⟩ := h (j / 3) (by omega)
  obtain ⟨rfl, rfl⟩ : b = b' ∧ o = o' := by simpa using e'
  obtain ⟨e0, e1, e2⟩ := encP_at l (j / 3) (by omega)
  have hm : j % 3 = 0 ∨ j % 3 = 1 ∨ j % 3 = 2 := by omega
  rcases hm with hm | hm | hm
  · have ej : j = j / 3 * 3 := by omega
    have hj2 := hj
    rw [ej] at hj2 ⊢
    rw [e0] at hj2
    rw [← hj2]; exact h0
  · have ej : j = j / 3 * 3 + 1 := by omega
    have hj2 := hj
    rw [ej] at hj2 ⊢
    rw [e1] at hj2
    rw [← hj2, ← Nat.add_assoc]; exact h1
  · have ej : j = j / 3 * 3 + 2 := by omega
    have hj2 := hj
    rw [ej] at hj2 ⊢
    rw [e2] at hj2
    rw [← hj2, ← Nat.add_assoc]; exact h2
theorem Src.of_preads {w : World} {A : Option Addr} {l : List PickD} (h : PReads w A l) : Src w 3 A l.length (encP l) := by
  refine ⟨encP_len l, fun e => ?_, fun ad e j u hj => ?_, fun u hu => ?_⟩
  · rcases Nat.eq_zero_or_pos l.length with h0 | h0
    · exact h0
    · obtain ⟨b, o, e', _⟩ := h 0 h0
      rw [e] at e'; cases e'
  · have hlt := (List.getElem?_eq_some_iff.1 hj).1
    rw [encP_len] at hlt
    obtain ⟨b, o, e', _⟩ := h 0 (by omega)
    subst e'
    cases e
    exact h.flat j u hj
  · unfold encP at hu
    obtain ⟨v, _, hv⟩ := List.mem_flatMap.1 hu
    simp at hv
    rcases hv with rfl | rfl | rfl <;> rfl
def twoP : PickD := ⟨true, 0, 2⟩
def picksOf (k : Int) (ps : List PickD) : List PickD := if k = 3 then (ps ++ [twoP, twoP]).take 2 else ps
theorem pick_info : (Tryd.prog.info? 94).map (fun i => (i.zero, i.size, i.bytes)) = some (some (.agg #[.bool false, .int .i64 0, .int .u64 0]), 3, 24) := by kernel_rfl
/-- What both hold alike. -/
theorem both_hold {room : Nat} {l : List ObjA} {c : CellD} {ws : List Int} (hw : WfA l) (he : cellE c = 0) (hs : ¬ SmallC c) (hk : ws.length = kidsD c) (hR : ∀ p ∈ ws, 0 ≤ p ∧ p < 18446744073709551616) (hr : room ≤ 262144) (hu : usedA l ≤ room) (h5 : ws.length ≤ 255) :
    rholdE room (refOf l) c (ws.map (valR l)).length (allFind l ws) = holdE room l c ws ∧ rholdL room (refOf l) c (ws.map (valR l)) (allFind l ws) = refOf (holdL room l c ws) ∧
      (holdE room l c ws = 0 → (findA (holdL room l c ws) (holdX room l c ws)).isSome = true ∧ rholdV room (refOf l) c (ws.map (valR l)) (allFind l ws) = valR (holdL room l c ws) (holdX room l c ws)) ∧ WfA (holdL room l c ws) ∧ Ext l (holdL room l c ws) := by
  have e1 : rholdE room (refOf l) c (ws.map (valR l)).length (allFind l ws) = holdE room l c ws := by
    unfold rholdE holdE usedR
    rw [usedR_ref, List.length_map, if_neg (by omega)]
  by_cases h : holdE room l c ws = 0
  · have a1 : holdL room l c ws = (makeA l c ws).1 := by unfold holdL; rw [if_pos h]
    have a2 : holdX room l c ws = (makeA l c ws).2 := by unfold holdX; rw [if_pos h]
    have a3 : rholdL room (refOf l) c (ws.map (valR l)) (allFind l ws) = refOf l ++ [⟨c, ws.map (valR l)⟩] := by unfold rholdL; rw [e1, if_pos h]
    have a4 : rholdV room (refOf l) c (ws.map (valR l)) (allFind l ws) = ⟨((refOf l).length : Int), c⟩ := by unfold rholdV; rw [e1, if_pos h]
    have hall : allFind l ws = true := by
      cases hb : allFind l ws with
      | true => rfl
      | false => unfold holdE at h; rw [if_pos hb] at h; omega
    have hlt : ¬ (room : Int) - (usedA l : Int) < (costC c : Int) := by
      intro hc
      unfold holdE at h
      rw [if_neg (by rw [hall]; simp), if_pos hc] at h
      omega
    have hp : ∀ p ∈ ws, FindOk l p := fun p hp => by
      unfold allFind at hall
      rw [List.all_eq_true] at hall
      exact ⟨hall p hp, hR p hp⟩
    have hb := make_ref_big hw he hs hk hp (by omega)
    unfold makeR at hb
    have b1 := congrArg Prod.fst hb
    have b2 := congrArg Prod.snd hb
    simp only at b1 b2
    refine ⟨e1, by rw [a3, a1, b1], fun _ => ⟨?_, by rw [a4, a1, a2, b2]⟩, by rw [a1]; exact make_wf hw he hk hp, by rw [a1]; exact makeA_ext l c ws⟩
    rw [a1, a2]
    exact (make_find hw he (by omega)).1
  · have a1 : holdL room l c ws = l := by unfold holdL; rw [if_neg h]
    have a3 : rholdL room (refOf l) c (ws.map (valR l)) (allFind l ws) = refOf l := by unfold rholdL; rw [e1, if_neg h]
    exact ⟨e1, by rw [a3, a1], fun hc => absurd hc h, by rw [a1]; exact hw, by rw [a1]; exact Ext.refl l⟩
end Go.Proofs.YtejcbpbhhofhlaaDoor.Tm
