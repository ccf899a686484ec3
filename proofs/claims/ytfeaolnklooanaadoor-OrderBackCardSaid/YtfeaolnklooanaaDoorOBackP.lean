/- Frames for the law OrderBack. -/
import Derived.Test.YtfeaolnklooanaaDoorBackP
import Derived.Test.YtfeaolnklooanaaDoorOPartsP
import Derived.Test.YtfeaolnklooanaaDoorOElem
import Derived.Test.YtfeaolnklooanaaDoorSeqM1
namespace Go.Proofs.YtfeaolnklooanaaDoor.Tm
open Go.RowKit Go.Shelf
set_option linter.unusedVariables false
set_option linter.unusedSimpArgs false

def okText (c : CellD) : Prop := c.text.size ≤ 9223372036854775807
theorem Fine.mem {l : List CellD} (h : Fine l) {c : CellD} (hc : c ∈ l) : okText c := by
  obtain ⟨j, hj, rfl⟩ := List.mem_iff_getElem.1 hc
  exact h.text j hj
theorem fine_mem {l : List CellD} (h : l.length ≤ 1024) (k : ∀ c ∈ l, okText c) : Fine l := ⟨by omega, fun j hj => k _ (List.getElem_mem hj)⟩
theorem Fine2.mem {ls : List (List CellD)} (h : Fine2 ls) {l : List CellD} (hl : l ∈ ls) : Fine l := by
  obtain ⟨j, hj, rfl⟩ := List.mem_iff_getElem.1 hl
  exact h j hj
theorem joinE_len1 (first each last : List CellD) (ls : List (List CellD)) : (joinE first each last ls).1.length ≤ 1024 := by
  unfold joinE
  split
  · simp
  · have := joinL_length each ls
    simp [this]; omega
theorem joinE_fine {first each last : List CellD} {ls : List (List CellD)} (h1 : ∀ c ∈ first, okText c) (h2 : ∀ c ∈ each, okText c) (h3 : ∀ c ∈ last, okText c) (h : Fine2 ls) : Fine (joinE first each last ls).1 := by
  refine fine_mem (joinE_len1 _ _ _ _) fun c hc => ?_
  unfold joinE at hc
  split at hc
  · simp at hc
  · simp only [List.mem_append, joinL, List.mem_flatMap] at hc
    rcases hc with (hc | ⟨l, hl, hc | hc⟩) | hc
    · exact h1 c hc
    · exact h2 c hc
    · exact (h.mem hl).mem hc
    · exact h3 c hc
theorem okText_no (k n : Int) : okText ⟨k, n, noText⟩ := by unfold okText; show (0 : Nat) ≤ _; omega
theorem listE_fine {ls : List (List CellD)} (h : Fine2 ls) : Fine (listE ls).1 := by
  unfold listE
  split
  · exact Fine.nil
  · exact joinE_fine (by simp) (fun c hc => by rw [List.mem_singleton.1 hc]; exact okText_no 7 0) (fun c hc => by rw [List.mem_singleton.1 hc]; exact okText_no 6 0) h
theorem tupleE_fine {ls : List (List CellD)} (h : Fine2 ls) : Fine (tupleE ls).1 := by
  unfold tupleE
  split
  · exact Fine.nil
  · split
    · exact Fine.nil
    · exact joinE_fine (fun c hc => by rw [List.mem_singleton.1 hc]; exact okText_no 5 _) (by simp) (by simp) h
theorem consE_fine {l m : List CellD} (h : Fine l) (k : Fine m) : Fine (consE l m).1 := by
  unfold consE
  split
  · exact Fine.nil
  · exact joinE_fine (fun c hc => by rw [List.mem_singleton.1 hc]; exact okText_no 7 0) (by simp) (by simp) (two_fine h k)
theorem partsK_mem : ∀ (k : Nat) (l : List CellD), ∀ p ∈ partsK k l, ∀ c ∈ p, c ∈ l
  | 0, l, p, hp, c, hc => by simp [partsK] at hp
  | k + 1, l, p, hp, c, hc => by
    rw [partsK] at hp
    rcases List.mem_cons.1 hp with rfl | h2
    · exact List.mem_of_mem_take hc
    · exact List.mem_of_mem_drop (partsK_mem k _ p h2 c hc)
theorem partsR_mem {t : List CellD} : ∀ p ∈ partsR t, ∀ c ∈ p, c ∈ t := fun p hp c hc => by
  unfold partsR at hp
  split at hp
  · exact absurd hp List.not_mem_nil
  · cases t with
    | nil => exact absurd hp List.not_mem_nil
    | cons d l => exact List.mem_cons_of_mem _ (partsK_mem _ _ _ hp c hc)
theorem partsR_fine {t : List CellD} (h : Fine t) : Fine2 (partsR t) := fun j hj =>
  fine_mem (partsR_small _ (List.getElem_mem hj)) fun c hc => h.mem (partsR_mem _ (List.getElem_mem hj) c hc)
/-- A number's box, written behind calls that change nothing older. -/
theorem kpY_box {W V : World} {bi : Nat} {xs : List Yld} {v v' : Value} (hB : Below W.heap.size W V) (hb : Boxed V bi 3 v) : KpY (fun k => k = bi) xs W (V.setCell ⟨bi, 0, none⟩ v') := by
  refine ⟨by have := hB.size; simpa [World.setCell] using this, fun k o _ hk ho _ => ?_, fun base A c l hr => row_box hb (by decide) (row_below hr hB)⟩
  exact (Below.heap_setCell _ _ _ _ hk).trans ((hB.block k (Array.getElem?_eq_some_iff.1 ho).1).trans ho)
theorem run_equalIn_func_nil3 {P : Program} (w : World) (d : Nat) {t : TypeId} {x y : Array TypeId} {z : Bool} (h : P.underlying t = some (.func x y z)) (fn : Fn) (first captured : Array Value) :
    (Op.equalIn (d + 1) t (.func fn first captured) .nilFunc).run P w = .ok false w := by
  simp [Op.equalIn, run_underlying h]
theorem run_eql_func_nil3 {P : Program} (w : World) {t : TypeId} {x y : Array TypeId} {z : Bool} (h : P.underlying t = some (.func x y z)) (fn : Fn) (first captured : Array Value) :
    (binOp .eql t (.func fn first captured) .nilFunc).run P w = .ok (.bool false) w := by
  simp only [binOp]
  simp [Op.equal, Op.maxDepth, run_equalIn_func_nil3 w 9999 h]
theorem rowIs_lt2 {W : World} {base c b o : Nat} {l : List CellD} (h : RowIs W base (some ⟨b, o, none⟩) c l) : b < W.heap.size := by
  rcases h.2 with ⟨e, _⟩ | ⟨g, cap, cur, hv, hb, hg, _⟩
  · injection e with e1; cases e1
  · injection hv with e1
    injection e1 with e1
    injection e1 with e1
    subst e1
    exact (Array.getElem?_eq_some_iff.1 hg).1
theorem elems_seq2 (n : Nat) (hn : 1 ≤ n) (ls : List (List CellD)) (lo b0 B lp : Nat) (wl W : World) (hE : ElemsAt wl lo b0 ls) (hB : Below wl.heap.size wl W) (hBB : wl.heap.size ≤ B) (hl : ∀ l ∈ ls, l.length ≤ 1024) (hlen : ls.length ≤ 1024) :
    SeqMem Fence.wide n Tryd.prog 40 #[.pointer (some ⟨b0, 0, none⟩)] lp encZ (GY W.heap.size ls) (KpY (fun k => k = B)) (SY W.heap.size ls) (SpY W.heap.size ls) W := by
  obtain ⟨A, c, vs, h1, h2, h3⟩ := hE
  refine elems1_mem n hn ls b0 A c lp _ W (cell_below hB h1) (fun j hj => ?_) hl (by omega)
  obtain ⟨Aj, cj, e, p⟩ := h3.2 j hj
  obtain ⟨g, rfl, hg, _⟩ := row_form h2 (by omega)
  have hc := row_cell1 h2 e
  have hgl : g < wl.heap.size := cell_lt hc
  refine ⟨g, Aj, cj, rfl, by omega, cell_below hB hc, p.reads.1, p.reads.2.below hB, fun b o e => ?_⟩
  subst e
  have := rowIs_lt2 p
  omega
end Go.Proofs.YtfeaolnklooanaaDoor.Tm
