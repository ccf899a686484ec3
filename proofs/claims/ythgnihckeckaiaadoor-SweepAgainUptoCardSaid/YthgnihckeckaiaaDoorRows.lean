/-
  NARROWER THAN 'FOR EVERY INPUT', by the rows' own cells (each row's printed sentence says how): ArenaStands: laid · DeepCells: laid · DeepObjects: laid · DeepReaches: laid · DeepNests: laid · DeepApart: laid · DeepCopies: laid · DeepEquals: laid · DeepNil: laid · SweepShares: laid · SweepReaches: laid · SweepNil: laid · SweepCollects: laid · SweepAgain: laid.
  DERIVED. THE GIVEN ROWS OF THIS SEAT. 14 by the template 'for every input the law returns true; each argument reads behind the call as it read before'; 0 by the template 'total and deterministic' (their statements: YthgnihckeckaiaaDoorTotals.lean).
  GIVEN WITH THE SEED: the statements are not yours to turn. If you find one false, say at which input.
  Laid BY PROGRAM, IN A SANDBOX (cutbox-rows.mjs): the forced cells as the released guide's own fill.sh prints them over the translation d5534e0bc4a203f7… (all of the seat's roots in one cut). By AI agents, Wed Nov 11 2026. No macro, syntax, notation, axiom, sorry.
-/
import Derived.Test.YthgnihckeckaiaaDoorChecked
import GoSem.PinnedTables
import GoSem.Claim
import GoSem.ClaimJoined
import GoSem.ClaimMapViews
import Derived.JoinedTies
import Derived.KernelRfl
namespace Go.Proofs.YthgnihckeckaiaaDoor
/- THE CELL 'sum', in the pinned program and in every row, IS THE sha256 OF THE DUMP (.gsa) THAT YthgnihckeckaiaaDoorProg.lean LOADS. Nothing in Lean hashes anything: it is a label: what it is worth is what the hold of that sum in a sandbox is worth. -/
noncomputable def Tryd.pinned : Pinned := { name := "ythgnihckeckaiaadoor", sum := "d5534e0bc4a203f7baa1ee64a304ce29a37e4ef7dfbed0c84e66907d20a42aba", checked := Tryd.checked }
namespace Rows
def none {H : Type} : Left H := { results := [], args := [] }

/- WHAT THE LISTED PACKAGE-LEVEL VARIABLES READ AS WHEN THE CALL BEGINS. Each datum BY PROGRAM (the guide's laid-datum.mjs) off the statement by which the dump's own 'gosem.cut.vars' lays the variable. In a bare row this is a premise. The card (YthgnihckeckaiaaDoorCards.lean) ties it to the program's text. -/
def laid_unicode_utf8_acceptRanges {H : Type} : DataW H := .agg [.agg [.lit (.int .u8 128), .lit (.int .u8 191)], .agg [.lit (.int .u8 160), .lit (.int .u8 191)], .agg [.lit (.int .u8 128), .lit (.int .u8 159)], .agg [.lit (.int .u8 144), .lit (.int .u8 191)], .agg [.lit (.int .u8 128), .lit (.int .u8 143)], .agg [.lit (.int .u8 0), .lit (.int .u8 0)], .agg [.lit (.int .u8 0), .lit (.int .u8 0)], .agg [.lit (.int .u8 0), .lit (.int .u8 0)], .agg [.lit (.int .u8 0), .lit (.int .u8 0)], .agg [.lit (.int .u8 0), .lit (.int .u8 0)], .agg [.lit (.int .u8 0), .lit (.int .u8 0)], .agg [.lit (.int .u8 0), .lit (.int .u8 0)], .agg [.lit (.int .u8 0), .lit (.int .u8 0)], .agg [.lit (.int .u8 0), .lit (.int .u8 0)], .agg [.lit (.int .u8 0), .lit (.int .u8 0)], .agg [.lit (.int .u8 0), .lit (.int .u8 0)]]
def laid_parley_arena_plain {H : Type} : DataW H := .agg [.lit (.int .i64 0), .lit (.int .i64 2), .lit (.int .i64 1), .lit (.int .i64 2), .lit (.int .i64 2), .lit (.int .i64 1), .lit (.int .i64 0), .lit (.int .i64 2), .lit (.int .i64 1)]
/-- One of Go's own tables, pinned by name: the form's constant. -/
def laid_unicode_utf8_first : DataW Unit := Go.Pinned.utf8First

/-- 'parleylaw03.ArenaStands': WHATEVER THE INPUT: true; the input reads as it did. -/
def arenaStandsSpec : ChangeSpec := { name := "arenaStands", fn := fun _ => fun
  | [d1, d2] => { results := [.lit (.bool true)], args := [d1, d2] }
  | _ => none }
def arenaStandsRow : OpenClaim := { program := "ythgnihckeckaiaadoor", sum := "d5534e0bc4a203f7baa1ee64a304ce29a37e4ef7dfbed0c84e66907d20a42aba", func := "parley/parleylaw03.ArenaStands", spec := "arenaStands", unfollowed := true, recurses := true, named := ["unicode/utf8.first", "unicode/utf8.acceptRanges", "parley/arena.plain"], apart := false, laid := [("unicode/utf8.acceptRanges", laid_unicode_utf8_acceptRanges), ("parley/arena.plain", laid_parley_arena_plain), ("unicode/utf8.first", laid_unicode_utf8_first)] }
def ArenaStandsSaid : Prop := arenaStandsRow.holds Tryd.pinned (OpenSpec.ofChange arenaStandsSpec)

/-- ITS FALSE NEIGHBOUR: 'it returns false'. Refute it at one input. -/
def arenaStandsWrong : ChangeSpec := { name := "arenaStands", fn := fun _ => fun
  | [d1, d2] => { results := [.lit (.bool false)], args := [d1, d2] }
  | _ => none }
def ArenaStandsWrongFalsely : Prop := arenaStandsRow.holds Tryd.pinned (OpenSpec.ofChange arenaStandsWrong)

/-- 'parleylaw04.DeepCells': WHATEVER THE INPUT: true; the input reads as it did. -/
def deepCellsSpec : ChangeSpec := { name := "deepCells", fn := fun _ => fun
  | [d1, d2, d3] => { results := [.lit (.bool true)], args := [d1, d2, d3] }
  | _ => none }
def deepCellsRow : OpenClaim := { program := "ythgnihckeckaiaadoor", sum := "d5534e0bc4a203f7baa1ee64a304ce29a37e4ef7dfbed0c84e66907d20a42aba", func := "parley/parleylaw04.DeepCells", spec := "deepCells", unfollowed := true, recurses := true, named := ["unicode/utf8.first", "unicode/utf8.acceptRanges", "parley/arena.plain"], apart := false, laid := [("unicode/utf8.acceptRanges", laid_unicode_utf8_acceptRanges), ("parley/arena.plain", laid_parley_arena_plain), ("unicode/utf8.first", laid_unicode_utf8_first)] }
def DeepCellsSaid : Prop := deepCellsRow.holds Tryd.pinned (OpenSpec.ofChange deepCellsSpec)

/-- ITS FALSE NEIGHBOUR: 'it returns false'. Refute it at one input. -/
def deepCellsWrong : ChangeSpec := { name := "deepCells", fn := fun _ => fun
  | [d1, d2, d3] => { results := [.lit (.bool false)], args := [d1, d2, d3] }
  | _ => none }
def DeepCellsWrongFalsely : Prop := deepCellsRow.holds Tryd.pinned (OpenSpec.ofChange deepCellsWrong)

/-- 'parleylaw04.DeepObjects': WHATEVER THE INPUT: true; the input reads as it did. -/
def deepObjectsSpec : ChangeSpec := { name := "deepObjects", fn := fun _ => fun
  | [d1, d2, d3] => { results := [.lit (.bool true)], args := [d1, d2, d3] }
  | _ => none }
def deepObjectsRow : OpenClaim := { program := "ythgnihckeckaiaadoor", sum := "d5534e0bc4a203f7baa1ee64a304ce29a37e4ef7dfbed0c84e66907d20a42aba", func := "parley/parleylaw04.DeepObjects", spec := "deepObjects", unfollowed := true, recurses := true, named := ["unicode/utf8.first", "unicode/utf8.acceptRanges", "parley/arena.plain"], apart := false, laid := [("unicode/utf8.acceptRanges", laid_unicode_utf8_acceptRanges), ("parley/arena.plain", laid_parley_arena_plain), ("unicode/utf8.first", laid_unicode_utf8_first)] }
def DeepObjectsSaid : Prop := deepObjectsRow.holds Tryd.pinned (OpenSpec.ofChange deepObjectsSpec)

/-- ITS FALSE NEIGHBOUR: 'it returns false'. Refute it at one input. -/
def deepObjectsWrong : ChangeSpec := { name := "deepObjects", fn := fun _ => fun
  | [d1, d2, d3] => { results := [.lit (.bool false)], args := [d1, d2, d3] }
  | _ => none }
def DeepObjectsWrongFalsely : Prop := deepObjectsRow.holds Tryd.pinned (OpenSpec.ofChange deepObjectsWrong)

/-- 'parleylaw04.DeepReaches': WHATEVER THE INPUT: true; the input reads as it did. -/
def deepReachesSpec : ChangeSpec := { name := "deepReaches", fn := fun _ => fun
  | [d1, d2, d3] => { results := [.lit (.bool true)], args := [d1, d2, d3] }
  | _ => none }
def deepReachesRow : OpenClaim := { program := "ythgnihckeckaiaadoor", sum := "d5534e0bc4a203f7baa1ee64a304ce29a37e4ef7dfbed0c84e66907d20a42aba", func := "parley/parleylaw04.DeepReaches", spec := "deepReaches", unfollowed := true, recurses := true, named := ["unicode/utf8.first", "unicode/utf8.acceptRanges", "parley/arena.plain"], apart := false, laid := [("unicode/utf8.acceptRanges", laid_unicode_utf8_acceptRanges), ("parley/arena.plain", laid_parley_arena_plain), ("unicode/utf8.first", laid_unicode_utf8_first)] }
def DeepReachesSaid : Prop := deepReachesRow.holds Tryd.pinned (OpenSpec.ofChange deepReachesSpec)

/-- ITS FALSE NEIGHBOUR: 'it returns false'. Refute it at one input. -/
def deepReachesWrong : ChangeSpec := { name := "deepReaches", fn := fun _ => fun
  | [d1, d2, d3] => { results := [.lit (.bool false)], args := [d1, d2, d3] }
  | _ => none }
def DeepReachesWrongFalsely : Prop := deepReachesRow.holds Tryd.pinned (OpenSpec.ofChange deepReachesWrong)

/-- 'parleylaw04.DeepNests': WHATEVER THE INPUT: true; the input reads as it did. -/
def deepNestsSpec : ChangeSpec := { name := "deepNests", fn := fun _ => fun
  | [d1, d2, d3] => { results := [.lit (.bool true)], args := [d1, d2, d3] }
  | _ => none }
def deepNestsRow : OpenClaim := { program := "ythgnihckeckaiaadoor", sum := "d5534e0bc4a203f7baa1ee64a304ce29a37e4ef7dfbed0c84e66907d20a42aba", func := "parley/parleylaw04.DeepNests", spec := "deepNests", unfollowed := true, recurses := true, named := ["unicode/utf8.first", "unicode/utf8.acceptRanges", "parley/arena.plain"], apart := false, laid := [("unicode/utf8.acceptRanges", laid_unicode_utf8_acceptRanges), ("parley/arena.plain", laid_parley_arena_plain), ("unicode/utf8.first", laid_unicode_utf8_first)] }
def DeepNestsSaid : Prop := deepNestsRow.holds Tryd.pinned (OpenSpec.ofChange deepNestsSpec)

/-- ITS FALSE NEIGHBOUR: 'it returns false'. Refute it at one input. -/
def deepNestsWrong : ChangeSpec := { name := "deepNests", fn := fun _ => fun
  | [d1, d2, d3] => { results := [.lit (.bool false)], args := [d1, d2, d3] }
  | _ => none }
def DeepNestsWrongFalsely : Prop := deepNestsRow.holds Tryd.pinned (OpenSpec.ofChange deepNestsWrong)

/-- 'parleylaw04.DeepApart': WHATEVER THE INPUT: true; the input reads as it did. -/
def deepApartSpec : ChangeSpec := { name := "deepApart", fn := fun _ => fun
  | [d1, d2] => { results := [.lit (.bool true)], args := [d1, d2] }
  | _ => none }
def deepApartRow : OpenClaim := { program := "ythgnihckeckaiaadoor", sum := "d5534e0bc4a203f7baa1ee64a304ce29a37e4ef7dfbed0c84e66907d20a42aba", func := "parley/parleylaw04.DeepApart", spec := "deepApart", unfollowed := true, recurses := true, named := ["unicode/utf8.first", "unicode/utf8.acceptRanges", "parley/arena.plain"], apart := false, laid := [("unicode/utf8.acceptRanges", laid_unicode_utf8_acceptRanges), ("parley/arena.plain", laid_parley_arena_plain), ("unicode/utf8.first", laid_unicode_utf8_first)] }
def DeepApartSaid : Prop := deepApartRow.holds Tryd.pinned (OpenSpec.ofChange deepApartSpec)

/-- ITS FALSE NEIGHBOUR: 'it returns false'. Refute it at one input. -/
def deepApartWrong : ChangeSpec := { name := "deepApart", fn := fun _ => fun
  | [d1, d2] => { results := [.lit (.bool false)], args := [d1, d2] }
  | _ => none }
def DeepApartWrongFalsely : Prop := deepApartRow.holds Tryd.pinned (OpenSpec.ofChange deepApartWrong)

/-- 'parleylaw04.DeepCopies': WHATEVER THE INPUT: true; the input reads as it did. -/
def deepCopiesSpec : ChangeSpec := { name := "deepCopies", fn := fun _ => fun
  | [d1, d2, d3, d4, d5] => { results := [.lit (.bool true)], args := [d1, d2, d3, d4, d5] }
  | _ => none }
def deepCopiesRow : OpenClaim := { program := "ythgnihckeckaiaadoor", sum := "d5534e0bc4a203f7baa1ee64a304ce29a37e4ef7dfbed0c84e66907d20a42aba", func := "parley/parleylaw04.DeepCopies", spec := "deepCopies", unfollowed := true, recurses := true, named := ["unicode/utf8.first", "unicode/utf8.acceptRanges", "parley/arena.plain"], apart := false, laid := [("unicode/utf8.acceptRanges", laid_unicode_utf8_acceptRanges), ("parley/arena.plain", laid_parley_arena_plain), ("unicode/utf8.first", laid_unicode_utf8_first)] }
def DeepCopiesSaid : Prop := deepCopiesRow.holds Tryd.pinned (OpenSpec.ofChange deepCopiesSpec)

/-- ITS FALSE NEIGHBOUR: 'it returns false'. Refute it at one input. -/
def deepCopiesWrong : ChangeSpec := { name := "deepCopies", fn := fun _ => fun
  | [d1, d2, d3, d4, d5] => { results := [.lit (.bool false)], args := [d1, d2, d3, d4, d5] }
  | _ => none }
def DeepCopiesWrongFalsely : Prop := deepCopiesRow.holds Tryd.pinned (OpenSpec.ofChange deepCopiesWrong)

/-- 'parleylaw04.DeepEquals': WHATEVER THE INPUT: true; the input reads as it did. -/
def deepEqualsSpec : ChangeSpec := { name := "deepEquals", fn := fun _ => fun
  | [d1, d2, d3, d4, d5] => { results := [.lit (.bool true)], args := [d1, d2, d3, d4, d5] }
  | _ => none }
def deepEqualsRow : OpenClaim := { program := "ythgnihckeckaiaadoor", sum := "d5534e0bc4a203f7baa1ee64a304ce29a37e4ef7dfbed0c84e66907d20a42aba", func := "parley/parleylaw04.DeepEquals", spec := "deepEquals", unfollowed := true, recurses := true, named := ["unicode/utf8.first", "unicode/utf8.acceptRanges", "parley/arena.plain"], apart := false, laid := [("unicode/utf8.acceptRanges", laid_unicode_utf8_acceptRanges), ("parley/arena.plain", laid_parley_arena_plain), ("unicode/utf8.first", laid_unicode_utf8_first)] }
def DeepEqualsSaid : Prop := deepEqualsRow.holds Tryd.pinned (OpenSpec.ofChange deepEqualsSpec)

/-- ITS FALSE NEIGHBOUR: 'it returns false'. Refute it at one input. -/
def deepEqualsWrong : ChangeSpec := { name := "deepEquals", fn := fun _ => fun
  | [d1, d2, d3, d4, d5] => { results := [.lit (.bool false)], args := [d1, d2, d3, d4, d5] }
  | _ => none }
def DeepEqualsWrongFalsely : Prop := deepEqualsRow.holds Tryd.pinned (OpenSpec.ofChange deepEqualsWrong)

/-- 'parleylaw04.DeepNil': WHATEVER THE INPUT: true; the input reads as it did. -/
def deepNilSpec : ChangeSpec := { name := "deepNil", fn := fun _ => fun
  | [d1, d2, d3] => { results := [.lit (.bool true)], args := [d1, d2, d3] }
  | _ => none }
def deepNilRow : OpenClaim := { program := "ythgnihckeckaiaadoor", sum := "d5534e0bc4a203f7baa1ee64a304ce29a37e4ef7dfbed0c84e66907d20a42aba", func := "parley/parleylaw04.DeepNil", spec := "deepNil", unfollowed := true, recurses := true, named := ["unicode/utf8.first", "unicode/utf8.acceptRanges", "parley/arena.plain"], apart := false, laid := [("unicode/utf8.acceptRanges", laid_unicode_utf8_acceptRanges), ("parley/arena.plain", laid_parley_arena_plain), ("unicode/utf8.first", laid_unicode_utf8_first)] }
def DeepNilSaid : Prop := deepNilRow.holds Tryd.pinned (OpenSpec.ofChange deepNilSpec)

/-- ITS FALSE NEIGHBOUR: 'it returns false'. Refute it at one input. -/
def deepNilWrong : ChangeSpec := { name := "deepNil", fn := fun _ => fun
  | [d1, d2, d3] => { results := [.lit (.bool false)], args := [d1, d2, d3] }
  | _ => none }
def DeepNilWrongFalsely : Prop := deepNilRow.holds Tryd.pinned (OpenSpec.ofChange deepNilWrong)

/-- 'parleylaw23.SweepShares': WHATEVER THE INPUT: true; the input reads as it did. -/
def sweepSharesSpec : ChangeSpec := { name := "sweepShares", fn := fun _ => fun
  | [d1, d2] => { results := [.lit (.bool true)], args := [d1, d2] }
  | _ => none }
def sweepSharesRow : OpenClaim := { program := "ythgnihckeckaiaadoor", sum := "d5534e0bc4a203f7baa1ee64a304ce29a37e4ef7dfbed0c84e66907d20a42aba", func := "parley/parleylaw23.SweepShares", spec := "sweepShares", unfollowed := true, recurses := true, named := ["unicode/utf8.first", "unicode/utf8.acceptRanges", "parley/arena.plain"], apart := false, laid := [("unicode/utf8.acceptRanges", laid_unicode_utf8_acceptRanges), ("parley/arena.plain", laid_parley_arena_plain), ("unicode/utf8.first", laid_unicode_utf8_first)] }
def SweepSharesSaid : Prop := sweepSharesRow.holds Tryd.pinned (OpenSpec.ofChange sweepSharesSpec)

/-- ITS FALSE NEIGHBOUR: 'it returns false'. Refute it at one input. -/
def sweepSharesWrong : ChangeSpec := { name := "sweepShares", fn := fun _ => fun
  | [d1, d2] => { results := [.lit (.bool false)], args := [d1, d2] }
  | _ => none }
def SweepSharesWrongFalsely : Prop := sweepSharesRow.holds Tryd.pinned (OpenSpec.ofChange sweepSharesWrong)

/-- 'parleylaw23.SweepReaches': WHATEVER THE INPUT: true; the input reads as it did. -/
def sweepReachesSpec : ChangeSpec := { name := "sweepReaches", fn := fun _ => fun
  | [d1, d2, d3] => { results := [.lit (.bool true)], args := [d1, d2, d3] }
  | _ => none }
def sweepReachesRow : OpenClaim := { program := "ythgnihckeckaiaadoor", sum := "d5534e0bc4a203f7baa1ee64a304ce29a37e4ef7dfbed0c84e66907d20a42aba", func := "parley/parleylaw23.SweepReaches", spec := "sweepReaches", unfollowed := true, recurses := true, named := ["unicode/utf8.first", "unicode/utf8.acceptRanges", "parley/arena.plain"], apart := false, laid := [("unicode/utf8.acceptRanges", laid_unicode_utf8_acceptRanges), ("parley/arena.plain", laid_parley_arena_plain), ("unicode/utf8.first", laid_unicode_utf8_first)] }
def SweepReachesSaid : Prop := sweepReachesRow.holds Tryd.pinned (OpenSpec.ofChange sweepReachesSpec)

/-- ITS FALSE NEIGHBOUR: 'it returns false'. Refute it at one input. -/
def sweepReachesWrong : ChangeSpec := { name := "sweepReaches", fn := fun _ => fun
  | [d1, d2, d3] => { results := [.lit (.bool false)], args := [d1, d2, d3] }
  | _ => none }
def SweepReachesWrongFalsely : Prop := sweepReachesRow.holds Tryd.pinned (OpenSpec.ofChange sweepReachesWrong)

/-- 'parleylaw23.SweepNil': WHATEVER THE INPUT: true; the input reads as it did. -/
def sweepNilSpec : ChangeSpec := { name := "sweepNil", fn := fun _ => fun
  | [d1, d2] => { results := [.lit (.bool true)], args := [d1, d2] }
  | _ => none }
def sweepNilRow : OpenClaim := { program := "ythgnihckeckaiaadoor", sum := "d5534e0bc4a203f7baa1ee64a304ce29a37e4ef7dfbed0c84e66907d20a42aba", func := "parley/parleylaw23.SweepNil", spec := "sweepNil", unfollowed := true, recurses := true, named := ["parley/arena.plain", "unicode/utf8.first", "unicode/utf8.acceptRanges"], apart := false, laid := [("unicode/utf8.acceptRanges", laid_unicode_utf8_acceptRanges), ("parley/arena.plain", laid_parley_arena_plain), ("unicode/utf8.first", laid_unicode_utf8_first)] }
def SweepNilSaid : Prop := sweepNilRow.holds Tryd.pinned (OpenSpec.ofChange sweepNilSpec)

/-- ITS FALSE NEIGHBOUR: 'it returns false'. Refute it at one input. -/
def sweepNilWrong : ChangeSpec := { name := "sweepNil", fn := fun _ => fun
  | [d1, d2] => { results := [.lit (.bool false)], args := [d1, d2] }
  | _ => none }
def SweepNilWrongFalsely : Prop := sweepNilRow.holds Tryd.pinned (OpenSpec.ofChange sweepNilWrong)

/-- 'parleylaw23.SweepCollects': WHATEVER THE INPUT: true; the input reads as it did. -/
def sweepCollectsSpec : ChangeSpec := { name := "sweepCollects", fn := fun _ => fun
  | [d1, d2, d3] => { results := [.lit (.bool true)], args := [d1, d2, d3] }
  | _ => none }
def sweepCollectsRow : OpenClaim := { program := "ythgnihckeckaiaadoor", sum := "d5534e0bc4a203f7baa1ee64a304ce29a37e4ef7dfbed0c84e66907d20a42aba", func := "parley/parleylaw23.SweepCollects", spec := "sweepCollects", unfollowed := true, recurses := true, named := ["unicode/utf8.first", "unicode/utf8.acceptRanges", "parley/arena.plain"], apart := false, laid := [("unicode/utf8.acceptRanges", laid_unicode_utf8_acceptRanges), ("parley/arena.plain", laid_parley_arena_plain), ("unicode/utf8.first", laid_unicode_utf8_first)] }
def SweepCollectsSaid : Prop := sweepCollectsRow.holds Tryd.pinned (OpenSpec.ofChange sweepCollectsSpec)

/-- ITS FALSE NEIGHBOUR: 'it returns false'. Refute it at one input. -/
def sweepCollectsWrong : ChangeSpec := { name := "sweepCollects", fn := fun _ => fun
  | [d1, d2, d3] => { results := [.lit (.bool false)], args := [d1, d2, d3] }
  | _ => none }
def SweepCollectsWrongFalsely : Prop := sweepCollectsRow.holds Tryd.pinned (OpenSpec.ofChange sweepCollectsWrong)

/-- 'parleylaw23.SweepAgain': WHATEVER THE INPUT: true; the input reads as it did. -/
def sweepAgainSpec : ChangeSpec := { name := "sweepAgain", fn := fun _ => fun
  | [d1, d2, d3] => { results := [.lit (.bool true)], args := [d1, d2, d3] }
  | _ => none }
def sweepAgainRow : OpenClaim := { program := "ythgnihckeckaiaadoor", sum := "d5534e0bc4a203f7baa1ee64a304ce29a37e4ef7dfbed0c84e66907d20a42aba", func := "parley/parleylaw23.SweepAgain", spec := "sweepAgain", unfollowed := true, recurses := true, named := ["unicode/utf8.first", "unicode/utf8.acceptRanges", "parley/arena.plain"], apart := false, laid := [("unicode/utf8.acceptRanges", laid_unicode_utf8_acceptRanges), ("parley/arena.plain", laid_parley_arena_plain), ("unicode/utf8.first", laid_unicode_utf8_first)] }
def SweepAgainSaid : Prop := sweepAgainRow.holds Tryd.pinned (OpenSpec.ofChange sweepAgainSpec)

/-- ITS FALSE NEIGHBOUR: 'it returns false'. Refute it at one input. -/
def sweepAgainWrong : ChangeSpec := { name := "sweepAgain", fn := fun _ => fun
  | [d1, d2, d3] => { results := [.lit (.bool false)], args := [d1, d2, d3] }
  | _ => none }
def SweepAgainWrongFalsely : Prop := sweepAgainRow.holds Tryd.pinned (OpenSpec.ofChange sweepAgainWrong)

/- THE SECOND FORM. 'bulk': how many values and letters a reading holds, each counted each time it is reached (what is shared counts as often as it is met; a slice's spare places count too). A statement '..UptoSaid' is the law's where the arguments, and the package variables that the reading takes, are together of bulk at most 1048576: NARROWER than '..Said'. Prove '..Said' where nothing that the law and all that it calls make is longer than what came in: it says more and counts as full. Else prove '..UptoSaid'. A law counts once. -/
mutual
def uptoBulk {H : Type} : DataW H → Nat
  | .lit (.string bytes) => bytes.length + 1
  | .lit _ => 1
  | .nil => 1
  | .ptr d => uptoBulk d + 1
  | .slice elems spare => uptoBulkAll elems + uptoBulkAll spare + 1
  | .agg parts => uptoBulkAll parts + 1
  | .iface _ d => uptoBulk d + 1
  | .map entries => uptoBulkEntries entries + 1
  | .held _ => 1
def uptoBulkAll {H : Type} : List (DataW H) → Nat
  | [] => 0
  | d :: r => uptoBulk d + uptoBulkAll r
def uptoBulkEntries {H : Type} : List (Lit × DataW H) → Nat
  | [] => 0
  | x :: r => uptoBulkEntry x + uptoBulkEntries r
def uptoBulkEntry {H : Type} : Lit × DataW H → Nat
  | (.string bytes, d) => bytes.length + uptoBulk d + 1
  | (_, d) => uptoBulk d + 1
 end
def uptoSmall : (H : Type) → List (DataW H) → Bool := fun _ ds => decide (uptoBulkAll ds ≤ 1048576)
def OpenSpec.upto (s : _root_.Go.ChangeSpec) : _root_.Go.OpenSpec := { _root_.Go.OpenSpec.ofChange s with cond := some uptoSmall }

/-- 'parleylaw03.ArenaStands', WHERE WHAT IT READS IS OF BULK AT MOST 1048576: true; the input reads as it did. -/
def arenaStandsUptoRow : OpenClaim := { program := "ythgnihckeckaiaadoor", sum := "d5534e0bc4a203f7baa1ee64a304ce29a37e4ef7dfbed0c84e66907d20a42aba", func := "parley/parleylaw03.ArenaStands", spec := "arenaStands", unfollowed := true, recurses := true, named := ["unicode/utf8.first", "unicode/utf8.acceptRanges", "parley/arena.plain"], apart := false, laid := [("unicode/utf8.acceptRanges", laid_unicode_utf8_acceptRanges), ("parley/arena.plain", laid_parley_arena_plain), ("unicode/utf8.first", laid_unicode_utf8_first)], narrowed := true }
def ArenaStandsUptoSaid : Prop := arenaStandsUptoRow.holds Tryd.pinned (OpenSpec.upto arenaStandsSpec)

/-- 'parleylaw04.DeepCells', WHERE WHAT IT READS IS OF BULK AT MOST 1048576: true; the input reads as it did. -/
def deepCellsUptoRow : OpenClaim := { program := "ythgnihckeckaiaadoor", sum := "d5534e0bc4a203f7baa1ee64a304ce29a37e4ef7dfbed0c84e66907d20a42aba", func := "parley/parleylaw04.DeepCells", spec := "deepCells", unfollowed := true, recurses := true, named := ["unicode/utf8.first", "unicode/utf8.acceptRanges", "parley/arena.plain"], apart := false, laid := [("unicode/utf8.acceptRanges", laid_unicode_utf8_acceptRanges), ("parley/arena.plain", laid_parley_arena_plain), ("unicode/utf8.first", laid_unicode_utf8_first)], narrowed := true }
def DeepCellsUptoSaid : Prop := deepCellsUptoRow.holds Tryd.pinned (OpenSpec.upto deepCellsSpec)

/-- 'parleylaw04.DeepObjects', WHERE WHAT IT READS IS OF BULK AT MOST 1048576: true; the input reads as it did. -/
def deepObjectsUptoRow : OpenClaim := { program := "ythgnihckeckaiaadoor", sum := "d5534e0bc4a203f7baa1ee64a304ce29a37e4ef7dfbed0c84e66907d20a42aba", func := "parley/parleylaw04.DeepObjects", spec := "deepObjects", unfollowed := true, recurses := true, named := ["unicode/utf8.first", "unicode/utf8.acceptRanges", "parley/arena.plain"], apart := false, laid := [("unicode/utf8.acceptRanges", laid_unicode_utf8_acceptRanges), ("parley/arena.plain", laid_parley_arena_plain), ("unicode/utf8.first", laid_unicode_utf8_first)], narrowed := true }
def DeepObjectsUptoSaid : Prop := deepObjectsUptoRow.holds Tryd.pinned (OpenSpec.upto deepObjectsSpec)

/-- 'parleylaw04.DeepReaches', WHERE WHAT IT READS IS OF BULK AT MOST 1048576: true; the input reads as it did. -/
def deepReachesUptoRow : OpenClaim := { program := "ythgnihckeckaiaadoor", sum := "d5534e0bc4a203f7baa1ee64a304ce29a37e4ef7dfbed0c84e66907d20a42aba", func := "parley/parleylaw04.DeepReaches", spec := "deepReaches", unfollowed := true, recurses := true, named := ["unicode/utf8.first", "unicode/utf8.acceptRanges", "parley/arena.plain"], apart := false, laid := [("unicode/utf8.acceptRanges", laid_unicode_utf8_acceptRanges), ("parley/arena.plain", laid_parley_arena_plain), ("unicode/utf8.first", laid_unicode_utf8_first)], narrowed := true }
def DeepReachesUptoSaid : Prop := deepReachesUptoRow.holds Tryd.pinned (OpenSpec.upto deepReachesSpec)

/-- 'parleylaw04.DeepNests', WHERE WHAT IT READS IS OF BULK AT MOST 1048576: true; the input reads as it did. -/
def deepNestsUptoRow : OpenClaim := { program := "ythgnihckeckaiaadoor", sum := "d5534e0bc4a203f7baa1ee64a304ce29a37e4ef7dfbed0c84e66907d20a42aba", func := "parley/parleylaw04.DeepNests", spec := "deepNests", unfollowed := true, recurses := true, named := ["unicode/utf8.first", "unicode/utf8.acceptRanges", "parley/arena.plain"], apart := false, laid := [("unicode/utf8.acceptRanges", laid_unicode_utf8_acceptRanges), ("parley/arena.plain", laid_parley_arena_plain), ("unicode/utf8.first", laid_unicode_utf8_first)], narrowed := true }
def DeepNestsUptoSaid : Prop := deepNestsUptoRow.holds Tryd.pinned (OpenSpec.upto deepNestsSpec)

/-- 'parleylaw04.DeepApart', WHERE WHAT IT READS IS OF BULK AT MOST 1048576: true; the input reads as it did. -/
def deepApartUptoRow : OpenClaim := { program := "ythgnihckeckaiaadoor", sum := "d5534e0bc4a203f7baa1ee64a304ce29a37e4ef7dfbed0c84e66907d20a42aba", func := "parley/parleylaw04.DeepApart", spec := "deepApart", unfollowed := true, recurses := true, named := ["unicode/utf8.first", "unicode/utf8.acceptRanges", "parley/arena.plain"], apart := false, laid := [("unicode/utf8.acceptRanges", laid_unicode_utf8_acceptRanges), ("parley/arena.plain", laid_parley_arena_plain), ("unicode/utf8.first", laid_unicode_utf8_first)], narrowed := true }
def DeepApartUptoSaid : Prop := deepApartUptoRow.holds Tryd.pinned (OpenSpec.upto deepApartSpec)

/-- 'parleylaw04.DeepCopies', WHERE WHAT IT READS IS OF BULK AT MOST 1048576: true; the input reads as it did. -/
def deepCopiesUptoRow : OpenClaim := { program := "ythgnihckeckaiaadoor", sum := "d5534e0bc4a203f7baa1ee64a304ce29a37e4ef7dfbed0c84e66907d20a42aba", func := "parley/parleylaw04.DeepCopies", spec := "deepCopies", unfollowed := true, recurses := true, named := ["unicode/utf8.first", "unicode/utf8.acceptRanges", "parley/arena.plain"], apart := false, laid := [("unicode/utf8.acceptRanges", laid_unicode_utf8_acceptRanges), ("parley/arena.plain", laid_parley_arena_plain), ("unicode/utf8.first", laid_unicode_utf8_first)], narrowed := true }
def DeepCopiesUptoSaid : Prop := deepCopiesUptoRow.holds Tryd.pinned (OpenSpec.upto deepCopiesSpec)

/-- 'parleylaw04.DeepEquals', WHERE WHAT IT READS IS OF BULK AT MOST 1048576: true; the input reads as it did. -/
def deepEqualsUptoRow : OpenClaim := { program := "ythgnihckeckaiaadoor", sum := "d5534e0bc4a203f7baa1ee64a304ce29a37e4ef7dfbed0c84e66907d20a42aba", func := "parley/parleylaw04.DeepEquals", spec := "deepEquals", unfollowed := true, recurses := true, named := ["unicode/utf8.first", "unicode/utf8.acceptRanges", "parley/arena.plain"], apart := false, laid := [("unicode/utf8.acceptRanges", laid_unicode_utf8_acceptRanges), ("parley/arena.plain", laid_parley_arena_plain), ("unicode/utf8.first", laid_unicode_utf8_first)], narrowed := true }
def DeepEqualsUptoSaid : Prop := deepEqualsUptoRow.holds Tryd.pinned (OpenSpec.upto deepEqualsSpec)

/-- 'parleylaw04.DeepNil', WHERE WHAT IT READS IS OF BULK AT MOST 1048576: true; the input reads as it did. -/
def deepNilUptoRow : OpenClaim := { program := "ythgnihckeckaiaadoor", sum := "d5534e0bc4a203f7baa1ee64a304ce29a37e4ef7dfbed0c84e66907d20a42aba", func := "parley/parleylaw04.DeepNil", spec := "deepNil", unfollowed := true, recurses := true, named := ["unicode/utf8.first", "unicode/utf8.acceptRanges", "parley/arena.plain"], apart := false, laid := [("unicode/utf8.acceptRanges", laid_unicode_utf8_acceptRanges), ("parley/arena.plain", laid_parley_arena_plain), ("unicode/utf8.first", laid_unicode_utf8_first)], narrowed := true }
def DeepNilUptoSaid : Prop := deepNilUptoRow.holds Tryd.pinned (OpenSpec.upto deepNilSpec)

/-- 'parleylaw23.SweepShares', WHERE WHAT IT READS IS OF BULK AT MOST 1048576: true; the input reads as it did. -/
def sweepSharesUptoRow : OpenClaim := { program := "ythgnihckeckaiaadoor", sum := "d5534e0bc4a203f7baa1ee64a304ce29a37e4ef7dfbed0c84e66907d20a42aba", func := "parley/parleylaw23.SweepShares", spec := "sweepShares", unfollowed := true, recurses := true, named := ["unicode/utf8.first", "unicode/utf8.acceptRanges", "parley/arena.plain"], apart := false, laid := [("unicode/utf8.acceptRanges", laid_unicode_utf8_acceptRanges), ("parley/arena.plain", laid_parley_arena_plain), ("unicode/utf8.first", laid_unicode_utf8_first)], narrowed := true }
def SweepSharesUptoSaid : Prop := sweepSharesUptoRow.holds Tryd.pinned (OpenSpec.upto sweepSharesSpec)

/-- 'parleylaw23.SweepReaches', WHERE WHAT IT READS IS OF BULK AT MOST 1048576: true; the input reads as it did. -/
def sweepReachesUptoRow : OpenClaim := { program := "ythgnihckeckaiaadoor", sum := "d5534e0bc4a203f7baa1ee64a304ce29a37e4ef7dfbed0c84e66907d20a42aba", func := "parley/parleylaw23.SweepReaches", spec := "sweepReaches", unfollowed := true, recurses := true, named := ["unicode/utf8.first", "unicode/utf8.acceptRanges", "parley/arena.plain"], apart := false, laid := [("unicode/utf8.acceptRanges", laid_unicode_utf8_acceptRanges), ("parley/arena.plain", laid_parley_arena_plain), ("unicode/utf8.first", laid_unicode_utf8_first)], narrowed := true }
def SweepReachesUptoSaid : Prop := sweepReachesUptoRow.holds Tryd.pinned (OpenSpec.upto sweepReachesSpec)

/-- 'parleylaw23.SweepNil', WHERE WHAT IT READS IS OF BULK AT MOST 1048576: true; the input reads as it did. -/
def sweepNilUptoRow : OpenClaim := { program := "ythgnihckeckaiaadoor", sum := "d5534e0bc4a203f7baa1ee64a304ce29a37e4ef7dfbed0c84e66907d20a42aba", func := "parley/parleylaw23.SweepNil", spec := "sweepNil", unfollowed := true, recurses := true, named := ["parley/arena.plain", "unicode/utf8.first", "unicode/utf8.acceptRanges"], apart := false, laid := [("unicode/utf8.acceptRanges", laid_unicode_utf8_acceptRanges), ("parley/arena.plain", laid_parley_arena_plain), ("unicode/utf8.first", laid_unicode_utf8_first)], narrowed := true }
def SweepNilUptoSaid : Prop := sweepNilUptoRow.holds Tryd.pinned (OpenSpec.upto sweepNilSpec)

/-- 'parleylaw23.SweepCollects', WHERE WHAT IT READS IS OF BULK AT MOST 1048576: true; the input reads as it did. -/
def sweepCollectsUptoRow : OpenClaim := { program := "ythgnihckeckaiaadoor", sum := "d5534e0bc4a203f7baa1ee64a304ce29a37e4ef7dfbed0c84e66907d20a42aba", func := "parley/parleylaw23.SweepCollects", spec := "sweepCollects", unfollowed := true, recurses := true, named := ["unicode/utf8.first", "unicode/utf8.acceptRanges", "parley/arena.plain"], apart := false, laid := [("unicode/utf8.acceptRanges", laid_unicode_utf8_acceptRanges), ("parley/arena.plain", laid_parley_arena_plain), ("unicode/utf8.first", laid_unicode_utf8_first)], narrowed := true }
def SweepCollectsUptoSaid : Prop := sweepCollectsUptoRow.holds Tryd.pinned (OpenSpec.upto sweepCollectsSpec)

/-- 'parleylaw23.SweepAgain', WHERE WHAT IT READS IS OF BULK AT MOST 1048576: true; the input reads as it did. -/
def sweepAgainUptoRow : OpenClaim := { program := "ythgnihckeckaiaadoor", sum := "d5534e0bc4a203f7baa1ee64a304ce29a37e4ef7dfbed0c84e66907d20a42aba", func := "parley/parleylaw23.SweepAgain", spec := "sweepAgain", unfollowed := true, recurses := true, named := ["unicode/utf8.first", "unicode/utf8.acceptRanges", "parley/arena.plain"], apart := false, laid := [("unicode/utf8.acceptRanges", laid_unicode_utf8_acceptRanges), ("parley/arena.plain", laid_parley_arena_plain), ("unicode/utf8.first", laid_unicode_utf8_first)], narrowed := true }
def SweepAgainUptoSaid : Prop := sweepAgainUptoRow.holds Tryd.pinned (OpenSpec.upto sweepAgainSpec)

end Rows
end Go.Proofs.YthgnihckeckaiaaDoor
