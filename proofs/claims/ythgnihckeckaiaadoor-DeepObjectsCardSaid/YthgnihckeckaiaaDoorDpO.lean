/- deep.Objects: its iterator. -/
import Derived.Test.YthgnihckeckaiaaDoorDpY
namespace Go.Proofs.YthgnihckeckaiaaDoor.Tm
open Go.RowKit Go.Shelf
set_option linter.unusedVariables false
set_option linter.unusedSimpArgs false

/-- What Objects tells. -/
def objsOf (L : List ObjA) (x : Int) : List Int := if (findA L x).isSome = true then visW L [] x else []
theorem objs_any (p0 : Option Addr) (x : Int) (w : World) : Calls Tryd.prog 82 #[.pointer p0, .int .u64 x] w fun e w' => e = .returned (.func (.func 125) #[] #[.pointer (some ⟨w.heap.size, 0, none⟩), .pointer (some ⟨w.heap.size + 1, 0, none⟩)]) ∧ w' = (w.alloc (.cells #[.pointer p0] 24)).alloc (.cells #[.int .u64 x] 27) := by
  go_enter Tryd.func82, Tryd.ntmps82
  go_wp2
  go_ret
  exact ⟨rfl, rfl⟩
set_option maxRecDepth 10000 in
set_option maxHeartbeats 4000000 in
theorem objs1_gh (n : Nat) (hn : 3 ≤ n) (lp b0 b1 : Nat) (w : World) (O : Nat → Prop) (ba room : Nat) (L : List ObjA) (x : Int) (hA : ArAt w O ba room L) (h0 : 0 ≤ x) (h1 : x < 18446744073709551616) (hc0 : w.cell? ⟨b0, 0, none⟩ = some (.pointer (some ⟨ba, 0, none⟩))) (hc1 : w.cell? ⟨b1, 0, none⟩ = some (.int .u64 x)) :
    SeqGh Fence.wide n Tryd.prog 125 #[.pointer (some ⟨b0, 0, none⟩), .pointer (some ⟨b1, 0, none⟩)] lp (objsOf L x) O w := by
  intro J Jx cs0 W hW hsz hcs hJg hY hJ0
  refine callsIn_wide.2 ?_
  show Calls Tryd.prog 125 #[.func (.yield lp) #[] #[], .pointer (some ⟨b0, 0, none⟩), .pointer (some ⟨b1, 0, none⟩)] W _
  have hAW := hA.below hW
  have c0 := cell_below hW hc0
  have c1 := cell_below hW hc1
  have hiw := isword_any W O ba room L x h0 h1 hAW
  have HA := Lib.hid hAW
  have HJG := Lib.hid hJg
  have HY := Lib.hid hY
  have HJ0 := Lib.hid hJ0
  have HCS := Lib.hid hcs
  have HC1 := Lib.hid c1
  cases hf : (findA L x).isSome with
  | false =>
    rw [hf] at hiw
    have HE := Lib.hid (show objsOf L x = [] by unfold objsOf; rw [hf]; rfl)
    clear hJg hY hJ0 hcs hA hAW hc0 hc1 hW hsz hf
    go_enter Tryd.func125, Tryd.ntmps125
    go_wp2_with fail
    refine hiw.mono ?_
    rintro e w2 ⟨rfl, hb⟩
    go_wp2
    go_end0
    refine ⟨⟨_, rfl⟩, .inl ⟨cs0, ?_⟩⟩
    rw [HE.out]
    exact HJG.out cs0 [] W w2 HJ0.out (Fr.of_below hb)
  | true =>
    rw [hf] at hiw
    have HE := Lib.hid (show objsOf L x = [x].foldl (visW L) [] by unfold objsOf; rw [hf]; rfl)
    have HF := Lib.hid hf
    clear hJg hY hJ0 hcs hA hAW hc0 hc1 hW hsz hf
    go_enter Tryd.func125, Tryd.ntmps125
    go_wp2_with fail
    refine hiw.mono ?_
    rintro e w2 ⟨rfl, hb⟩
    have c0' := cell_below hb c0
    have c1' := cell_below hb c1
    have hb3 := below_alloc' hb (.cells #[.int .u64 x] 27)
    have hs3 := hb.size
    have hz3 : (w2.alloc (.cells #[.int .u64 x] 27)).heap.size = w2.heap.size + 1 := World.size_alloc _ _
    have hwk : Calls Tryd.prog 84 #[.pointer (some ⟨ba, 0, none⟩), .slice (some ⟨w2.heap.size, 0, none⟩) 1 1, .func (.yield lp) #[] #[]] _ _ := walk_yield n hn lp (w2.alloc (.cells #[.int .u64 x] 27)) O ba room L [x] (some ⟨w2.heap.size, 0, none⟩) 1 (HA.out.below hb3)
      (fun j hj => by
        have e : j = 0 := by simpa using hj
        subst e
        exact ⟨w2.heap.size, 0, rfl, BlkIs.cell (show BlkIs (w2.alloc (.cells #[.int .u64 x] 27)) w2.heap.size #[.int .u64 x] 27 from heap_alloc_new w2 _) 0 rfl⟩)
      (fun y hy => by rw [List.mem_singleton.1 hy]; exact ⟨HF.out, h0, h1⟩) (by simp) J Jx cs0 (fun k hk => ⟨by have := (HCS.out k hk).1; omega, (HCS.out k hk).2⟩)
      (fun b o e => by
        cases e
        exact ⟨by omega, fun hk => by have := (HCS.out _ hk).1; omega⟩)
      (fun cs pre W1 W2 h hf => HJG.out cs pre W1 W2 h (hf.mono fun k _ hk => ⟨by have := hk.1; omega, hk.2⟩))
      (fun cs pre y W1 h hk hp => HY.out cs pre y W1 h hk (by rw [HE.out]; exact hp))
      (HJG.out cs0 [] W _ HJ0.out (Fr.of_below hb3))
    clear hiw hs3 hz3
    go_wp2_with fail
    refine hwk.mono ?_
    rintro e V ⟨⟨v, rfl⟩, h⟩
    have HH := Lib.hid h
    clear h hwk
    go_wp2
    go_end0
    rw [HE.out]
    exact ⟨⟨_, rfl⟩, HH.out⟩
theorem objs1_nil (n : Nat) (lp b0 b1 : Nat) (w : World) (O : Nat → Prop) (hc0 : w.cell? ⟨b0, 0, none⟩ = some (.pointer none)) :
    SeqGh Fence.wide n Tryd.prog 125 #[.pointer (some ⟨b0, 0, none⟩), .pointer (some ⟨b1, 0, none⟩)] lp [] O w := by
  intro J Jx cs0 W hW hsz hcs hJg hY hJ0
  refine callsIn_wide.2 ?_
  show Calls Tryd.prog 125 #[.func (.yield lp) #[] #[], .pointer (some ⟨b0, 0, none⟩), .pointer (some ⟨b1, 0, none⟩)] W _
  have c0 := cell_below hW hc0
  have HJ0 := Lib.hid hJ0
  clear hJg hY hJ0 hcs hc0 hW hsz
  go_enter Tryd.func125, Tryd.ntmps125
  go_wp2
  go_end0
  exact ⟨⟨_, rfl⟩, .inl ⟨cs0, HJ0.out⟩⟩
end Go.Proofs.YthgnihckeckaiaaDoor.Tm
