/-
  No cell of these rows narrows 'for every input' (looked for: loops, veiled, ifaces, maps, wideKeys, modest, calm, conditions, laid).
  DERIVED. THE GIVEN ROWS OF THIS SEAT. 8 by the template 'for every input the law returns true; each argument reads behind the call as it read before'; 0 by the template 'total and deterministic' (their statements: YtofpbiadnbbaoaaTotals.lean).
  GIVEN WITH THE SEED: the statements are not yours to turn. If you find one false, say at which input.
  Laid BY PROGRAM, IN A SANDBOX (cutbox-rows.mjs): the forced cells as the released guide's own fill.sh prints them over the translation 512a94f83f6f9754… (all of the seat's roots in one cut). By AI agents, Wed Nov 11 2026. No macro, syntax, notation, axiom, sorry.
-/
import Derived.Test.YtofpbiadnbbaoaaChecked
import GoSem.Claim
import GoSem.ClaimJoined
import GoSem.ClaimMapViews
import Derived.JoinedTies
import Derived.KernelRfl
namespace Go.Proofs.Ytofpbiadnbbaoaa
/- THE CELL 'sum', in the pinned program and in every row, IS THE sha256 OF THE DUMP (.gsa) THAT YtofpbiadnbbaoaaProg.lean LOADS. Nothing in Lean hashes anything: it is a label: what it is worth is what the hold of that sum in a sandbox is worth. -/
noncomputable def Try.pinned : Pinned := { name := "ytofpbiadnbbaoaa", sum := "512a94f83f6f9754addd85e3bbb6a0619f77ed124f9835723719e1775d33af07", checked := Try.checked }
namespace Rows
def none {H : Type} : Left H := { results := [], args := [] }

/-- 'parleylaw01.WordTells': WHATEVER THE INPUT: true; the input reads as it did. -/
def wordTellsSpec : ChangeSpec := { name := "wordTells", fn := fun _ => fun
  | [d] => { results := [.lit (.bool true)], args := [d] }
  | _ => none }
def wordTellsRow : OpenClaim := { program := "ytofpbiadnbbaoaa", sum := "512a94f83f6f9754addd85e3bbb6a0619f77ed124f9835723719e1775d33af07", func := "parley/parleylaw01.WordTells", spec := "wordTells", apart := false }
def WordTellsSaid : Prop := wordTellsRow.holds Try.pinned (OpenSpec.ofChange wordTellsSpec)

/-- ITS FALSE NEIGHBOUR: 'it returns false'. Refute it at one input. -/
def wordTellsWrong : ChangeSpec := { name := "wordTells", fn := fun _ => fun
  | [d] => { results := [.lit (.bool false)], args := [d] }
  | _ => none }
def WordTellsWrongFalsely : Prop := wordTellsRow.holds Try.pinned (OpenSpec.ofChange wordTellsWrong)

/-- 'parleylaw13.IdsMakes': WHATEVER THE INPUT: true; the input reads as it did. -/
def idsMakesSpec : ChangeSpec := { name := "idsMakes", fn := fun _ => fun
  | [d1, d2, d3] => { results := [.lit (.bool true)], args := [d1, d2, d3] }
  | _ => none }
def idsMakesRow : OpenClaim := { program := "ytofpbiadnbbaoaa", sum := "512a94f83f6f9754addd85e3bbb6a0619f77ed124f9835723719e1775d33af07", func := "parley/parleylaw13.IdsMakes", spec := "idsMakes", apart := false }
def IdsMakesSaid : Prop := idsMakesRow.holds Try.pinned (OpenSpec.ofChange idsMakesSpec)

/-- ITS FALSE NEIGHBOUR: 'it returns false'. Refute it at one input. -/
def idsMakesWrong : ChangeSpec := { name := "idsMakes", fn := fun _ => fun
  | [d1, d2, d3] => { results := [.lit (.bool false)], args := [d1, d2, d3] }
  | _ => none }
def IdsMakesWrongFalsely : Prop := idsMakesRow.holds Try.pinned (OpenSpec.ofChange idsMakesWrong)

/-- 'parleylaw01.WordMakes': WHATEVER THE INPUT: true; the input reads as it did. -/
def wordMakesSpec : ChangeSpec := { name := "wordMakes", fn := fun _ => fun
  | [d1, d2, d3] => { results := [.lit (.bool true)], args := [d1, d2, d3] }
  | _ => none }
def wordMakesRow : OpenClaim := { program := "ytofpbiadnbbaoaa", sum := "512a94f83f6f9754addd85e3bbb6a0619f77ed124f9835723719e1775d33af07", func := "parley/parleylaw01.WordMakes", spec := "wordMakes", apart := false }
def WordMakesSaid : Prop := wordMakesRow.holds Try.pinned (OpenSpec.ofChange wordMakesSpec)

/-- ITS FALSE NEIGHBOUR: 'it returns false'. Refute it at one input. -/
def wordMakesWrong : ChangeSpec := { name := "wordMakes", fn := fun _ => fun
  | [d1, d2, d3] => { results := [.lit (.bool false)], args := [d1, d2, d3] }
  | _ => none }
def WordMakesWrongFalsely : Prop := wordMakesRow.holds Try.pinned (OpenSpec.ofChange wordMakesWrong)

/-- 'parleylaw13.IdsRefs': WHATEVER THE INPUT: true; the input reads as it did. -/
def idsRefsSpec : ChangeSpec := { name := "idsRefs", fn := fun _ => fun
  | [d1, d2] => { results := [.lit (.bool true)], args := [d1, d2] }
  | _ => none }
def idsRefsRow : OpenClaim := { program := "ytofpbiadnbbaoaa", sum := "512a94f83f6f9754addd85e3bbb6a0619f77ed124f9835723719e1775d33af07", func := "parley/parleylaw13.IdsRefs", spec := "idsRefs", apart := false }
def IdsRefsSaid : Prop := idsRefsRow.holds Try.pinned (OpenSpec.ofChange idsRefsSpec)

/-- ITS FALSE NEIGHBOUR: 'it returns false'. Refute it at one input. -/
def idsRefsWrong : ChangeSpec := { name := "idsRefs", fn := fun _ => fun
  | [d1, d2] => { results := [.lit (.bool false)], args := [d1, d2] }
  | _ => none }
def IdsRefsWrongFalsely : Prop := idsRefsRow.holds Try.pinned (OpenSpec.ofChange idsRefsWrong)

/-- 'parleylaw01.WordBack': WHATEVER THE INPUT: true; the input reads as it did. -/
def wordBackSpec : ChangeSpec := { name := "wordBack", fn := fun _ => fun
  | [d1, d2, d3, d4] => { results := [.lit (.bool true)], args := [d1, d2, d3, d4] }
  | _ => none }
def wordBackRow : OpenClaim := { program := "ytofpbiadnbbaoaa", sum := "512a94f83f6f9754addd85e3bbb6a0619f77ed124f9835723719e1775d33af07", func := "parley/parleylaw01.WordBack", spec := "wordBack", apart := false }
def WordBackSaid : Prop := wordBackRow.holds Try.pinned (OpenSpec.ofChange wordBackSpec)

/-- ITS FALSE NEIGHBOUR: 'it returns false'. Refute it at one input. -/
def wordBackWrong : ChangeSpec := { name := "wordBack", fn := fun _ => fun
  | [d1, d2, d3, d4] => { results := [.lit (.bool false)], args := [d1, d2, d3, d4] }
  | _ => none }
def WordBackWrongFalsely : Prop := wordBackRow.holds Try.pinned (OpenSpec.ofChange wordBackWrong)

/-- 'parleylaw13.IdsNever': WHATEVER THE INPUT: true; the input reads as it did. -/
def idsNeverSpec : ChangeSpec := { name := "idsNever", fn := fun _ => fun
  | [d1, d2] => { results := [.lit (.bool true)], args := [d1, d2] }
  | _ => none }
def idsNeverRow : OpenClaim := { program := "ytofpbiadnbbaoaa", sum := "512a94f83f6f9754addd85e3bbb6a0619f77ed124f9835723719e1775d33af07", func := "parley/parleylaw13.IdsNever", spec := "idsNever", unfollowed := true, recurses := true, apart := false }
def IdsNeverSaid : Prop := idsNeverRow.holds Try.pinned (OpenSpec.ofChange idsNeverSpec)

/-- ITS FALSE NEIGHBOUR: 'it returns false'. Refute it at one input. -/
def idsNeverWrong : ChangeSpec := { name := "idsNever", fn := fun _ => fun
  | [d1, d2] => { results := [.lit (.bool false)], args := [d1, d2] }
  | _ => none }
def IdsNeverWrongFalsely : Prop := idsNeverRow.holds Try.pinned (OpenSpec.ofChange idsNeverWrong)

/-- 'parleylaw13.IdsPlays': WHATEVER THE INPUT: true; the input reads as it did. -/
def idsPlaysSpec : ChangeSpec := { name := "idsPlays", fn := fun _ => fun
  | [d1, d2, d3] => { results := [.lit (.bool true)], args := [d1, d2, d3] }
  | _ => none }
def idsPlaysRow : OpenClaim := { program := "ytofpbiadnbbaoaa", sum := "512a94f83f6f9754addd85e3bbb6a0619f77ed124f9835723719e1775d33af07", func := "parley/parleylaw13.IdsPlays", spec := "idsPlays", unfollowed := true, recurses := true, apart := false }
def IdsPlaysSaid : Prop := idsPlaysRow.holds Try.pinned (OpenSpec.ofChange idsPlaysSpec)

/-- ITS FALSE NEIGHBOUR: 'it returns false'. Refute it at one input. -/
def idsPlaysWrong : ChangeSpec := { name := "idsPlays", fn := fun _ => fun
  | [d1, d2, d3] => { results := [.lit (.bool false)], args := [d1, d2, d3] }
  | _ => none }
def IdsPlaysWrongFalsely : Prop := idsPlaysRow.holds Try.pinned (OpenSpec.ofChange idsPlaysWrong)

/-- 'parleylaw13.IdsNil': WHATEVER THE INPUT: true; the input reads as it did. -/
def idsNilSpec : ChangeSpec := { name := "idsNil", fn := fun _ => fun
  | [d] => { results := [.lit (.bool true)], args := [d] }
  | _ => none }
def idsNilRow : OpenClaim := { program := "ytofpbiadnbbaoaa", sum := "512a94f83f6f9754addd85e3bbb6a0619f77ed124f9835723719e1775d33af07", func := "parley/parleylaw13.IdsNil", spec := "idsNil", unfollowed := true, recurses := true, apart := false }
def IdsNilSaid : Prop := idsNilRow.holds Try.pinned (OpenSpec.ofChange idsNilSpec)

/-- ITS FALSE NEIGHBOUR: 'it returns false'. Refute it at one input. -/
def idsNilWrong : ChangeSpec := { name := "idsNil", fn := fun _ => fun
  | [d] => { results := [.lit (.bool false)], args := [d] }
  | _ => none }
def IdsNilWrongFalsely : Prop := idsNilRow.holds Try.pinned (OpenSpec.ofChange idsNilWrong)

/- THE SECOND FORM. 'bulk': how many values and letters a reading holds, each counted each time it is reached (what is shared counts as often as it is met; a slice's spare places count too). A statement '..UptoSaid' is the law's where the arguments, and the package variables that the reading takes, are together of bulk at most 1048576: NARROWER than '..Said'. Prove '..Said' where nothing that the law and all that it calls make is longer than what came in: it says more and counts as full. Else prove '..UptoSaid'. A law counts once. -/
mutual
def uptoBulk {H : Type} : DataW H → Nat
  | .lit (.string bytes) => bytes.length + 1
  | .lit _ => 1
  | .nil => 1
  | .ptr d => uptoBulk d + 1
  | .slice elems spare => uptoBulkAll elems + uptoBulkAll spare + 1
  | .agg parts => uptoBulkAll parts + 1
  | .iface _ d => uptoBulk d + 1
  | .map entries => uptoBulkEntries entries + 1
  | .held _ => 1
def uptoBulkAll {H : Type} : List (DataW H) → Nat
  | [] => 0
  | d :: r => uptoBulk d + uptoBulkAll r
def uptoBulkEntries {H : Type} : List (Lit × DataW H) → Nat
  | [] => 0
  | x :: r => uptoBulkEntry x + uptoBulkEntries r
def uptoBulkEntry {H : Type} : Lit × DataW H → Nat
  | (.string bytes, d) => bytes.length + uptoBulk d + 1
  | (_, d) => uptoBulk d + 1
 end
def uptoSmall : (H : Type) → List (DataW H) → Bool := fun _ ds => decide (uptoBulkAll ds ≤ 1048576)
def OpenSpec.upto (s : _root_.Go.ChangeSpec) : _root_.Go.OpenSpec := { _root_.Go.OpenSpec.ofChange s with cond := some uptoSmall }

/-- 'parleylaw01.WordTells', WHERE WHAT IT READS IS OF BULK AT MOST 1048576: true; the input reads as it did. -/
def wordTellsUptoRow : OpenClaim := { program := "ytofpbiadnbbaoaa", sum := "512a94f83f6f9754addd85e3bbb6a0619f77ed124f9835723719e1775d33af07", func := "parley/parleylaw01.WordTells", spec := "wordTells", apart := false, narrowed := true }
def WordTellsUptoSaid : Prop := wordTellsUptoRow.holds Try.pinned (OpenSpec.upto wordTellsSpec)

/-- 'parleylaw13.IdsMakes', WHERE WHAT IT READS IS OF BULK AT MOST 1048576: true; the input reads as it did. -/
def idsMakesUptoRow : OpenClaim := { program := "ytofpbiadnbbaoaa", sum := "512a94f83f6f9754addd85e3bbb6a0619f77ed124f9835723719e1775d33af07", func := "parley/parleylaw13.IdsMakes", spec := "idsMakes", apart := false, narrowed := true }
def IdsMakesUptoSaid : Prop := idsMakesUptoRow.holds Try.pinned (OpenSpec.upto idsMakesSpec)

/-- 'parleylaw01.WordMakes', WHERE WHAT IT READS IS OF BULK AT MOST 1048576: true; the input reads as it did. -/
def wordMakesUptoRow : OpenClaim := { program := "ytofpbiadnbbaoaa", sum := "512a94f83f6f9754addd85e3bbb6a0619f77ed124f9835723719e1775d33af07", func := "parley/parleylaw01.WordMakes", spec := "wordMakes", apart := false, narrowed := true }
def WordMakesUptoSaid : Prop := wordMakesUptoRow.holds Try.pinned (OpenSpec.upto wordMakesSpec)

/-- 'parleylaw13.IdsRefs', WHERE WHAT IT READS IS OF BULK AT MOST 1048576: true; the input reads as it did. -/
def idsRefsUptoRow : OpenClaim := { program := "ytofpbiadnbbaoaa", sum := "512a94f83f6f9754addd85e3bbb6a0619f77ed124f9835723719e1775d33af07", func := "parley/parleylaw13.IdsRefs", spec := "idsRefs", apart := false, narrowed := true }
def IdsRefsUptoSaid : Prop := idsRefsUptoRow.holds Try.pinned (OpenSpec.upto idsRefsSpec)

/-- 'parleylaw01.WordBack', WHERE WHAT IT READS IS OF BULK AT MOST 1048576: true; the input reads as it did. -/
def wordBackUptoRow : OpenClaim := { program := "ytofpbiadnbbaoaa", sum := "512a94f83f6f9754addd85e3bbb6a0619f77ed124f9835723719e1775d33af07", func := "parley/parleylaw01.WordBack", spec := "wordBack", apart := false, narrowed := true }
def WordBackUptoSaid : Prop := wordBackUptoRow.holds Try.pinned (OpenSpec.upto wordBackSpec)

/-- 'parleylaw13.IdsNever', WHERE WHAT IT READS IS OF BULK AT MOST 1048576: true; the input reads as it did. -/
def idsNeverUptoRow : OpenClaim := { program := "ytofpbiadnbbaoaa", sum := "512a94f83f6f9754addd85e3bbb6a0619f77ed124f9835723719e1775d33af07", func := "parley/parleylaw13.IdsNever", spec := "idsNever", unfollowed := true, recurses := true, apart := false, narrowed := true }
def IdsNeverUptoSaid : Prop := idsNeverUptoRow.holds Try.pinned (OpenSpec.upto idsNeverSpec)

/-- 'parleylaw13.IdsPlays', WHERE WHAT IT READS IS OF BULK AT MOST 1048576: true; the input reads as it did. -/
def idsPlaysUptoRow : OpenClaim := { program := "ytofpbiadnbbaoaa", sum := "512a94f83f6f9754addd85e3bbb6a0619f77ed124f9835723719e1775d33af07", func := "parley/parleylaw13.IdsPlays", spec := "idsPlays", unfollowed := true, recurses := true, apart := false, narrowed := true }
def IdsPlaysUptoSaid : Prop := idsPlaysUptoRow.holds Try.pinned (OpenSpec.upto idsPlaysSpec)

/-- 'parleylaw13.IdsNil', WHERE WHAT IT READS IS OF BULK AT MOST 1048576: true; the input reads as it did. -/
def idsNilUptoRow : OpenClaim := { program := "ytofpbiadnbbaoaa", sum := "512a94f83f6f9754addd85e3bbb6a0619f77ed124f9835723719e1775d33af07", func := "parley/parleylaw13.IdsNil", spec := "idsNil", unfollowed := true, recurses := true, apart := false, narrowed := true }
def IdsNilUptoSaid : Prop := idsNilUptoRow.holds Try.pinned (OpenSpec.upto idsNilSpec)

end Rows
end Go.Proofs.Ytofpbiadnbbaoaa
