/- ArenaBack: the worlds; Cost. -/
import Derived.Test.YtejcbpbhhofhlaaDoorRfG
import Derived.Test.YtejcbpbhhofhlaaDoorRfF
import Derived.Test.YtejcbpbhhofhlaaDoorArY
namespace Go.Proofs.YtejcbpbhhofhlaaDoor.Tm
open Go.RowKit
set_option linter.unusedVariables false
set_option linter.unusedSimpArgs false

theorem putT_cells {Q : CellD → Prop} : ∀ (f : Nat) (t : List CellD), t.length ≤ f → Good t 1 → (∀ c ∈ t, Q c) → ∀ l : List ObjA, (∀ o ∈ l, Q o.cell) → ∀ o ∈ (putT f l t).1, Q o.cell
  | 0, t, hf, hg => absurd (good_len hg) (by omega)
  | f + 1, t, hf, hg => by
    intro hQ l hl
    obtain ⟨c, ht, hce, hpl, hpg⟩ := parts_good hg
    have hs := parts_short (t := t)
    have hhd : t.headD zeroR = c := by rw [ht]; rfl
    have hin : ∀ p ∈ partsE t, ∀ x ∈ p, Q x := fun p hp x hx => hQ x (by rw [ht]; exact List.mem_cons_of_mem _ (List.mem_flatten.2 ⟨p, hp, hx⟩))
    have hc : Q c := hQ c (by rw [ht]; simp)
    have kid : ∀ ps : List (List CellD), (∀ p ∈ ps, p.length ≤ f ∧ Good p 1 ∧ ∀ x ∈ p, Q x) → ∀ o ∈ (putK f (l, []) ps).1, Q o.cell := by
      intro ps
      induction ps using snoc_ind with
      | nil => intro _; exact hl
      | append_singleton ps p ih =>
        intro hp
        rw [putK_snoc]
        have h0 := hp p (by simp)
        exact putT_cells f p h0.1 h0.2.1 h0.2.2 _ (ih (fun q hq => hp q (by simp [hq])))
    have K := kid (partsE t) (fun p hp => ⟨by have := hs p hp; omega, hpg p hp, hin p hp⟩)
    rw [putT_eq, hhd]
    unfold makeA
    split
    · exact K
    · split
      · exact K
      · intro o ho
        rcases List.mem_append.1 ho with ho | ho
        · exact K o ho
        · rw [List.mem_singleton.1 ho]; exact hc
/-- What a Put leaves, of both. -/
structure BothPut (room : Nat) (l : List ObjA) (t : List CellD) : Prop where
  e : rputE room (refOf l) t = putE room l t
  r : rputL room (refOf l) t = refOf (putL room l t)
  wf : WfA (putL room l t)
  ext : Ext l (putL room l t)
  cells : (∀ o ∈ l, WfC o.cell) → (∀ c ∈ t, WfC c) → ∀ o ∈ putL room l t, WfC o.cell
  ok : putE room l t = 0 → FindOk (putL room l t) (putX room l t) ∧ Tells (putL room l t) [putX room l t] t ∧ usedA (putL room l t) = usedA l + totalA t ∧ t.length ≤ 1024 ∧ (∀ c ∈ t, cellE c = 0)
  bad : putE room l t ≠ 0 → putL room l t = l
theorem both_put {room : Nat} {l : List ObjA} {t : List CellD} (hw : WfA l) (hr : room ≤ 262144) (hu : usedA l ≤ room) : BothPut room l t := by
  have e : rputE room (refOf l) t = putE room l t := by
    unfold rputE putE usedR
    rw [usedR_ref]
  by_cases h : putE room l t = 0
  · have e1 : putL room l t = (putF l t).1 := by unfold putL; rw [if_pos h]
    have e2 : putX room l t = (putF l t).2.2 := by unfold putX; rw [if_pos h]
    have e3 : rputL room (refOf l) t = (layR t.length (refOf l) t).1 := by unfold rputL; rw [e, if_pos h]
    have h0 : (rightE t).1 = 0 := by
      unfold putE at h
      split at h
      · exact h
      · rename_i h'; simpa using h'
    obtain ⟨hg, hl0, hl1⟩ := rightE_ok h0
    have hf : ¬ (room : Int) - (usedA l : Int) < (totalA t : Int) := by
      unfold putE at h
      rw [if_neg (by simp [h0])] at h
      intro hc
      rw [if_pos hc] at h
      omega
    have S := put_spec hw hg hl0 (by omega)
    have T := putF_term (Nat.le_refl _) hg l
    have L := lay_put t.length t (Nat.le_refl _) hg l hw (by omega)
    have e4 : (putF l t).1 = (putT t.length l t).1 := by rw [T]
    refine ⟨e, ?_, ?_, ?_, fun h1 h2 => ?_, fun _ => ?_, fun hc => absurd h hc⟩
    · rw [e3, e1, L, e4]
    · rw [e1]; exact S.wf
    · rw [e1]; exact S.ext
    · rw [e1, e4]; exact putT_cells t.length t (Nat.le_refl _) hg h2 l h1
    · rw [e1, e2]; exact ⟨S.fx, S.tell, S.used, hl1, good_cells hg⟩
  · have e1 : putL room l t = l := by unfold putL; rw [if_neg h]
    have e3 : rputL room (refOf l) t = refOf l := by unfold rputL; rw [e, if_neg h]
    exact ⟨e, by rw [e3, e1], by rw [e1]; exact hw, by rw [e1]; exact Ext.refl l, fun h1 _ => by rw [e1]; exact h1, fun hc => absurd hc h, fun _ => e1⟩
structure BackRep (w wr : World) (O OR : Nat → Prop) (ba ra : Nat) (L : List ObjA) (R : List ObjR) (vW : Value) (xs : List Int) (vK : Value) (ks : List (List CellD)) (vs : List Value) : Prop where
  ar : ArAt wr O ba 262144 L
  rf : RfAt wr OR ra 262144 R
  oo : ∀ k, O k → ¬ OR k
  o1 : ∀ k, O k → w.heap.size ≤ k
  o2 : ∀ k, OR k → w.heap.size ≤ k
  base : Below w.heap.size w wr
  rw_ : wr.ownsRow w.heap.size 31 1 vW xs.length (encW xs)
  rk : wr.ownsRow w.heap.size 35 1 vK ks.length vs
  ek : Each (fun A c l => l.length ≤ c ∧ Reads w A l) vs ks
  wO : ∀ k, vW.ownBlock = some k → ¬ O k ∧ ¬ OR k
  kO : ∀ k, vK.ownBlock = some k → ¬ O k ∧ ¬ OR k
theorem BackRep.below {w wr w' : World} {O OR : Nat → Prop} {ba ra : Nat} {L : List ObjA} {R : List ObjR} {vW vK : Value} {xs : List Int} {ks : List (List CellD)} {vs : List Value} (h : BackRep w wr O OR ba ra L R vW xs vK ks vs) (hB : Below wr.heap.size wr w') : BackRep w w' O OR ba ra L R vW xs vK ks vs :=
  ⟨h.ar.below hB, h.rf.below hB, h.oo, h.o1, h.o2, below_then h.base hB, row_below h.rw_ hB, row_below h.rk hB, h.ek, h.wO, h.kO⟩
theorem BackRep.put {w wr w' : World} {O OR : Nat → Prop} {ba ra : Nat} {L L' : List ObjA} {R : List ObjR} {vW vK : Value} {xs : List Int} {ks : List (List CellD)} {vs : List Value} (h : BackRep w wr O OR ba ra L R vW xs vK ks vs) (hM : Made wr w' O ba 262144 L') : ∃ O', BackRep w w' O' OR ba ra L' R vW xs vK ks vs := by
  obtain ⟨O', a1, a2, a3, a4⟩ := hM
  have hs := h.base.size
  have hn : ∀ k, k < wr.heap.size → ¬ O k → ¬ O' k := fun k hk ho ho' => by
    rcases a3 k ho' with h | h
    · exact ho h
    · omega
  refine ⟨O', a1, h.rf.fr a4 (fun k hk ho => h.oo k ho hk), fun k hk hr => ?_, fun k hk => ?_, h.o2, h.base.trans (a4.below hs h.o1), row_fr h.rw_ a4 (fun k hk => (h.wO k hk).1), row_fr h.rk a4 (fun k hk => (h.kO k hk).1), h.ek,
    fun k hk => ⟨hn k (row_lt h.rw_ k hk) (h.wO k hk).1, (h.wO k hk).2⟩, fun k hk => ⟨hn k (row_lt h.rk k hk) (h.kO k hk).1, (h.kO k hk).2⟩⟩
  · rcases a3 k hk with h' | h'
    · exact h.oo k h' hr
    · have := (h.rf.lim k hr).2; omega
  · rcases a3 k hk with h' | h'
    · exact h.o1 k h'
    · omega
theorem BackRep.rput {w wr w' : World} {O OR : Nat → Prop} {ba ra : Nat} {L : List ObjA} {R R' : List ObjR} {vW vK : Value} {xs : List Int} {ks : List (List CellD)} {vs : List Value} (h : BackRep w wr O OR ba ra L R vW xs vK ks vs) (hM : RMade wr w' OR NoX ra 262144 R') : ∃ OR', BackRep w w' O OR' ba ra L R' vW xs vK ks vs := by
  obtain ⟨O', a1, a2, a3, a4⟩ := hM
  have hs := h.base.size
  have a3' : ∀ k, O' k → OR k ∨ wr.heap.size ≤ k := fun k hk => by
    rcases a3 k hk with h | h | h
    · exact .inl h
    · exact absurd h id
    · exact .inr h
  have hn : ∀ k, k < wr.heap.size → ¬ OR k → ¬ O' k := fun k hk ho ho' => by
    rcases a3' k ho' with h | h
    · exact ho h
    · omega
  refine ⟨O', h.ar.fr a4 (fun k hk hr => h.oo k hk hr), a1, fun k hk hr => ?_, h.o1, fun k hk => ?_, h.base.trans (a4.below hs h.o2), row_fr h.rw_ a4 (fun k hk => (h.wO k hk).2), row_fr h.rk a4 (fun k hk => (h.kO k hk).2), h.ek,
    fun k hk => ⟨(h.wO k hk).1, hn k (row_lt h.rw_ k hk) (h.wO k hk).2⟩, fun k hk => ⟨(h.kO k hk).1, hn k (row_lt h.rk k hk) (h.kO k hk).2⟩⟩
  · rcases a3' k hr with h' | h'
    · exact h.oo k hk h'
    · have := (h.ar.lim k hk).2; omega
  · rcases a3' k hk with h' | h'
    · exact h.o2 k h'
    · omega
theorem BackRep.addW {w wr wa w' : World} {O OR : Nat → Prop} {ba ra : Nat} {L : List ObjA} {R : List ObjR} {vW vK : Value} {xs : List Int} {ks : List (List CellD)} {vs : List Value} (h : BackRep w wr O OR ba ra L R vW xs vK ks vs) (hB : Below wr.heap.size wr wa) (hg : wa.grownBy w' vW.ownBlock) {x : Int} {g cap : Nat}
    (hrow : w'.ownsRow w.heap.size 31 1 (.slice (some ⟨g, 0, none⟩) (xs.length + 1) cap) (xs.length + 1) (encW xs ++ [.int .u64 x])) (hat : vW.ownBlock = some g ∨ wa.heap.size ≤ g) : BackRep w w' O OR ba ra L R (.slice (some ⟨g, 0, none⟩) (xs.length + 1) cap) (xs ++ [x]) vK ks vs := by
  have h := h.below hB
  have hg1 : ∀ k, (Value.slice (some ⟨g, 0, none⟩) (xs.length + 1) cap).ownBlock = some k → g = k := fun k hk => by simpa [Value.ownBlock] using hk
  refine ⟨h.ar.same hg.size fun k hk => hg.block k (h.ar.lim k hk).2 (fun e => (h.wO k e.symm).1 hk), h.rf.same hg.size fun k hk => hg.block k (h.rf.lim k hk).2 (fun e => (h.wO k e.symm).2 hk), h.oo, h.o1, h.o2, below_grown h.base hg (row_base h.rw_), ?_, h.rk.kept hg (rows_ne h.rk h.rw_ (by decide)), h.ek, ?_, h.kO⟩
  · rw [List.length_append, List.length_singleton, encW_snoc]; exact hrow
  · intro k hk
    rw [← hg1 k hk]
    rcases hat with h' | h'
    · exact h.wO g h'
    · exact ⟨fun ho => by have := (h.ar.lim g ho).2; omega, fun ho => by have := (h.rf.lim g ho).2; omega⟩
theorem BackRep.addK {w wr wa w' : World} {O OR : Nat → Prop} {ba ra : Nat} {L : List ObjA} {R : List ObjR} {vW vK : Value} {xs : List Int} {ks : List (List CellD)} {vs : List Value} (h : BackRep w wr O OR ba ra L R vW xs vK ks vs) (hB : Below wr.heap.size wr wa) (hg : wa.grownBy w' vK.ownBlock) {A : Option Addr} {c : Nat} {t : List CellD} {g cap : Nat}
    (hrow : w'.ownsRow w.heap.size 35 1 (.slice (some ⟨g, 0, none⟩) (ks.length + 1) cap) (ks.length + 1) (vs ++ [.slice A t.length c])) (hat : vK.ownBlock = some g ∨ wa.heap.size ≤ g) (ht : t.length ≤ c ∧ Reads w A t) : BackRep w w' O OR ba ra L R vW xs (.slice (some ⟨g, 0, none⟩) (ks.length + 1) cap) (ks ++ [t]) (vs ++ [.slice A t.length c]) := by
  have h := h.below hB
  have hg1 : ∀ k, (Value.slice (some ⟨g, 0, none⟩) (ks.length + 1) cap).ownBlock = some k → g = k := fun k hk => by simpa [Value.ownBlock] using hk
  refine ⟨h.ar.same hg.size fun k hk => hg.block k (h.ar.lim k hk).2 (fun e => (h.kO k e.symm).1 hk), h.rf.same hg.size fun k hk => hg.block k (h.rf.lim k hk).2 (fun e => (h.kO k e.symm).2 hk), h.oo, h.o1, h.o2, below_grown h.base hg (row_base h.rk), h.rw_.kept hg (rows_ne h.rw_ h.rk (by decide)), ?_, h.ek.snoc ht, h.wO, ?_⟩
  · rw [List.length_append, List.length_singleton]; exact hrow
  · intro k hk
    rw [← hg1 k hk]
    rcases hat with h' | h'
    · exact h.kO g h'
    · exact ⟨fun ho => by have := (h.ar.lim g ho).2; omega, fun ho => by have := (h.rf.lim g ho).2; omega⟩
set_option maxHeartbeats 1000000 in
theorem acost_any (w : World) (O : Nat → Prop) (ba room : Nat) (l : List ObjA) (x : Int) (c : CellD) (ps : List Int) (h0 : 0 ≤ x) (h1 : x < 18446744073709551616) (h : ArAt w O ba room l) (hT : TabsA w) (hs : seenA l x = some (c, ps)) (hc : WfC c) (he : cellE c = 0) :
    Calls Tryd.prog 15 #[.pointer (some ⟨ba, 0, none⟩), .int .u64 x] w fun e w' => e = .returned (.tuple #[.int .i64 (costC c : Int), .int .i64 0]) ∧ Below w.heap.size w w' := by
  have hseen := seen_any w O ba room l x h0 h1 h
  rw [hs] at hseen
  have HC := Lib.hid (⟨hc, he⟩ : WfC c ∧ cellE c = 0)
  clear hs hc he
  go_enter Tryd.func15, Tryd.ntmps15
  go_wp2_with fail
  refine hseen.mono ?_
  rintro e w1 ⟨⟨A, cap, rfl, _⟩, hB⟩
  rw [cell_seen_agg]
  have hB2 := below_alloc' hB (.cells #[.int .i64 c.kind, .int .i64 c.n, .string c.text] 37)
  have hz := cost_any c _ (hT.below hB2) HC.out.1 HC.out.2
  go_wp2_with fail
  refine hz.mono ?_
  rintro e w2 ⟨rfl, hb⟩
  go_wp2
  go_ret2
  exact ⟨rfl, below_then hB2 hb⟩
end Go.Proofs.YtejcbpbhhofhlaaDoor.Tm
