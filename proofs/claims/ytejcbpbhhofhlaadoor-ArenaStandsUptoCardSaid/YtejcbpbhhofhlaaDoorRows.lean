/-
  NARROWER THAN 'FOR EVERY INPUT', by the rows' own cells (each row's printed sentence says how): ArenaBack: laid · ArenaShares: laid · ArenaPlays: laid · ArenaStands: laid · ArenaNil: laid.
  DERIVED. THE GIVEN ROWS OF THIS SEAT. 5 by the template 'for every input the law returns true; each argument reads behind the call as it read before'; 0 by the template 'total and deterministic' (their statements: YtejcbpbhhofhlaaDoorTotals.lean).
  GIVEN WITH THE SEED: the statements are not yours to turn. If you find one false, say at which input.
  Laid BY PROGRAM, IN A SANDBOX (cutbox-rows.mjs): the forced cells as the released guide's own fill.sh prints them over the translation 8d268c914017a77c… (all of the seat's roots in one cut). By AI agents, Wed Nov 11 2026. No macro, syntax, notation, axiom, sorry.
-/
import Derived.Test.YtejcbpbhhofhlaaDoorChecked
import GoSem.PinnedTables
import GoSem.Claim
import GoSem.ClaimJoined
import GoSem.ClaimMapViews
import Derived.JoinedTies
import Derived.KernelRfl
namespace Go.Proofs.YtejcbpbhhofhlaaDoor
/- THE CELL 'sum', in the pinned program and in every row, IS THE sha256 OF THE DUMP (.gsa) THAT YtejcbpbhhofhlaaDoorProg.lean LOADS. Nothing in Lean hashes anything: it is a label: what it is worth is what the hold of that sum in a sandbox is worth. -/
noncomputable def Tryd.pinned : Pinned := { name := "ytejcbpbhhofhlaadoor", sum := "8d268c914017a77cf529589a9c9ed5be183d2c0c9f455e4f9116b62d7f771903", checked := Tryd.checked }
namespace Rows
def none {H : Type} : Left H := { results := [], args := [] }

/- WHAT THE LISTED PACKAGE-LEVEL VARIABLES READ AS WHEN THE CALL BEGINS. Each datum BY PROGRAM (the guide's laid-datum.mjs) off the statement by which the dump's own 'gosem.cut.vars' lays the variable. In a bare row this is a premise. The card (YtejcbpbhhofhlaaDoorCards.lean) ties it to the program's text. -/
def laid_unicode_utf8_acceptRanges {H : Type} : DataW H := .agg [.agg [.lit (.int .u8 128), .lit (.int .u8 191)], .agg [.lit (.int .u8 160), .lit (.int .u8 191)], .agg [.lit (.int .u8 128), .lit (.int .u8 159)], .agg [.lit (.int .u8 144), .lit (.int .u8 191)], .agg [.lit (.int .u8 128), .lit (.int .u8 143)], .agg [.lit (.int .u8 0), .lit (.int .u8 0)], .agg [.lit (.int .u8 0), .lit (.int .u8 0)], .agg [.lit (.int .u8 0), .lit (.int .u8 0)], .agg [.lit (.int .u8 0), .lit (.int .u8 0)], .agg [.lit (.int .u8 0), .lit (.int .u8 0)], .agg [.lit (.int .u8 0), .lit (.int .u8 0)], .agg [.lit (.int .u8 0), .lit (.int .u8 0)], .agg [.lit (.int .u8 0), .lit (.int .u8 0)], .agg [.lit (.int .u8 0), .lit (.int .u8 0)], .agg [.lit (.int .u8 0), .lit (.int .u8 0)], .agg [.lit (.int .u8 0), .lit (.int .u8 0)]]
def laid_parley_arena_plain {H : Type} : DataW H := .agg [.lit (.int .i64 0), .lit (.int .i64 2), .lit (.int .i64 1), .lit (.int .i64 2), .lit (.int .i64 2), .lit (.int .i64 1), .lit (.int .i64 0), .lit (.int .i64 2), .lit (.int .i64 1)]
/-- One of Go's own tables, pinned by name: the form's constant. -/
def laid_unicode_utf8_first : DataW Unit := Go.Pinned.utf8First

/-- 'parleylaw03.ArenaBack': WHATEVER THE INPUT: true; the input reads as it did. -/
def arenaBackSpec : ChangeSpec := { name := "arenaBack", fn := fun _ => fun
  | [d] => { results := [.lit (.bool true)], args := [d] }
  | _ => none }
def arenaBackRow : OpenClaim := { program := "ytejcbpbhhofhlaadoor", sum := "8d268c914017a77cf529589a9c9ed5be183d2c0c9f455e4f9116b62d7f771903", func := "parley/parleylaw03.ArenaBack", spec := "arenaBack", unfollowed := true, recurses := true, named := ["unicode/utf8.first", "unicode/utf8.acceptRanges", "parley/arena.plain"], apart := false, laid := [("unicode/utf8.acceptRanges", laid_unicode_utf8_acceptRanges), ("parley/arena.plain", laid_parley_arena_plain), ("unicode/utf8.first", laid_unicode_utf8_first)] }
def ArenaBackSaid : Prop := arenaBackRow.holds Tryd.pinned (OpenSpec.ofChange arenaBackSpec)

/-- ITS FALSE NEIGHBOUR: 'it returns false'. Refute it at one input. -/
def arenaBackWrong : ChangeSpec := { name := "arenaBack", fn := fun _ => fun
  | [d] => { results := [.lit (.bool false)], args := [d] }
  | _ => none }
def ArenaBackWrongFalsely : Prop := arenaBackRow.holds Tryd.pinned (OpenSpec.ofChange arenaBackWrong)

/-- 'parleylaw03.ArenaShares': WHATEVER THE INPUT: true; the input reads as it did. -/
def arenaSharesSpec : ChangeSpec := { name := "arenaShares", fn := fun _ => fun
  | [d1, d2] => { results := [.lit (.bool true)], args := [d1, d2] }
  | _ => none }
def arenaSharesRow : OpenClaim := { program := "ytejcbpbhhofhlaadoor", sum := "8d268c914017a77cf529589a9c9ed5be183d2c0c9f455e4f9116b62d7f771903", func := "parley/parleylaw03.ArenaShares", spec := "arenaShares", named := ["unicode/utf8.first", "unicode/utf8.acceptRanges", "parley/arena.plain"], apart := false, laid := [("unicode/utf8.acceptRanges", laid_unicode_utf8_acceptRanges), ("parley/arena.plain", laid_parley_arena_plain), ("unicode/utf8.first", laid_unicode_utf8_first)] }
def ArenaSharesSaid : Prop := arenaSharesRow.holds Tryd.pinned (OpenSpec.ofChange arenaSharesSpec)

/-- ITS FALSE NEIGHBOUR: 'it returns false'. Refute it at one input. -/
def arenaSharesWrong : ChangeSpec := { name := "arenaShares", fn := fun _ => fun
  | [d1, d2] => { results := [.lit (.bool false)], args := [d1, d2] }
  | _ => none }
def ArenaSharesWrongFalsely : Prop := arenaSharesRow.holds Tryd.pinned (OpenSpec.ofChange arenaSharesWrong)

/-- 'parleylaw03.ArenaPlays': WHATEVER THE INPUT: true; the input reads as it did. -/
def arenaPlaysSpec : ChangeSpec := { name := "arenaPlays", fn := fun _ => fun
  | [d1, d2] => { results := [.lit (.bool true)], args := [d1, d2] }
  | _ => none }
def arenaPlaysRow : OpenClaim := { program := "ytejcbpbhhofhlaadoor", sum := "8d268c914017a77cf529589a9c9ed5be183d2c0c9f455e4f9116b62d7f771903", func := "parley/parleylaw03.ArenaPlays", spec := "arenaPlays", unfollowed := true, recurses := true, named := ["unicode/utf8.first", "unicode/utf8.acceptRanges", "parley/arena.plain"], apart := false, laid := [("unicode/utf8.acceptRanges", laid_unicode_utf8_acceptRanges), ("parley/arena.plain", laid_parley_arena_plain), ("unicode/utf8.first", laid_unicode_utf8_first)] }
def ArenaPlaysSaid : Prop := arenaPlaysRow.holds Tryd.pinned (OpenSpec.ofChange arenaPlaysSpec)

/-- ITS FALSE NEIGHBOUR: 'it returns false'. Refute it at one input. -/
def arenaPlaysWrong : ChangeSpec := { name := "arenaPlays", fn := fun _ => fun
  | [d1, d2] => { results := [.lit (.bool false)], args := [d1, d2] }
  | _ => none }
def ArenaPlaysWrongFalsely : Prop := arenaPlaysRow.holds Tryd.pinned (OpenSpec.ofChange arenaPlaysWrong)

/-- 'parleylaw03.ArenaStands': WHATEVER THE INPUT: true; the input reads as it did. -/
def arenaStandsSpec : ChangeSpec := { name := "arenaStands", fn := fun _ => fun
  | [d1, d2] => { results := [.lit (.bool true)], args := [d1, d2] }
  | _ => none }
def arenaStandsRow : OpenClaim := { program := "ytejcbpbhhofhlaadoor", sum := "8d268c914017a77cf529589a9c9ed5be183d2c0c9f455e4f9116b62d7f771903", func := "parley/parleylaw03.ArenaStands", spec := "arenaStands", unfollowed := true, recurses := true, named := ["unicode/utf8.first", "unicode/utf8.acceptRanges", "parley/arena.plain"], apart := false, laid := [("unicode/utf8.acceptRanges", laid_unicode_utf8_acceptRanges), ("parley/arena.plain", laid_parley_arena_plain), ("unicode/utf8.first", laid_unicode_utf8_first)] }
def ArenaStandsSaid : Prop := arenaStandsRow.holds Tryd.pinned (OpenSpec.ofChange arenaStandsSpec)

/-- ITS FALSE NEIGHBOUR: 'it returns false'. Refute it at one input. -/
def arenaStandsWrong : ChangeSpec := { name := "arenaStands", fn := fun _ => fun
  | [d1, d2] => { results := [.lit (.bool false)], args := [d1, d2] }
  | _ => none }
def ArenaStandsWrongFalsely : Prop := arenaStandsRow.holds Tryd.pinned (OpenSpec.ofChange arenaStandsWrong)

/-- 'parleylaw03.ArenaNil': WHATEVER THE INPUT: true; the input reads as it did. -/
def arenaNilSpec : ChangeSpec := { name := "arenaNil", fn := fun _ => fun
  | [d1, d2, d3] => { results := [.lit (.bool true)], args := [d1, d2, d3] }
  | _ => none }
def arenaNilRow : OpenClaim := { program := "ytejcbpbhhofhlaadoor", sum := "8d268c914017a77cf529589a9c9ed5be183d2c0c9f455e4f9116b62d7f771903", func := "parley/parleylaw03.ArenaNil", spec := "arenaNil", unfollowed := true, recurses := true, named := ["unicode/utf8.first", "unicode/utf8.acceptRanges", "parley/arena.plain"], apart := false, laid := [("unicode/utf8.acceptRanges", laid_unicode_utf8_acceptRanges), ("parley/arena.plain", laid_parley_arena_plain), ("unicode/utf8.first", laid_unicode_utf8_first)] }
def ArenaNilSaid : Prop := arenaNilRow.holds Tryd.pinned (OpenSpec.ofChange arenaNilSpec)

/-- ITS FALSE NEIGHBOUR: 'it returns false'. Refute it at one input. -/
def arenaNilWrong : ChangeSpec := { name := "arenaNil", fn := fun _ => fun
  | [d1, d2, d3] => { results := [.lit (.bool false)], args := [d1, d2, d3] }
  | _ => none }
def ArenaNilWrongFalsely : Prop := arenaNilRow.holds Tryd.pinned (OpenSpec.ofChange arenaNilWrong)

/- THE SECOND FORM. 'bulk': how many values and letters a reading holds, each counted each time it is reached (what is shared counts as often as it is met; a slice's spare places count too). A statement '..UptoSaid' is the law's where the arguments, and the package variables that the reading takes, are together of bulk at most 1048576: NARROWER than '..Said'. Prove '..Said' where nothing that the law and all that it calls make is longer than what came in: it says more and counts as full. Else prove '..UptoSaid'. A law counts once. -/
mutual
def uptoBulk {H : Type} : DataW H → Nat
  | .lit (.string bytes) => bytes.length + 1
  | .lit _ => 1
  | .nil => 1
  | .ptr d => uptoBulk d + 1
  | .slice elems spare => uptoBulkAll elems + uptoBulkAll spare + 1
  | .agg parts => uptoBulkAll parts + 1
  | .iface _ d => uptoBulk d + 1
  | .map entries => uptoBulkEntries entries + 1
  | .held _ => 1
def uptoBulkAll {H : Type} : List (DataW H) → Nat
  | [] => 0
  | d :: r => uptoBulk d + uptoBulkAll r
def uptoBulkEntries {H : Type} : List (Lit × DataW H) → Nat
  | [] => 0
  | x :: r => uptoBulkEntry x + uptoBulkEntries r
def uptoBulkEntry {H : Type} : Lit × DataW H → Nat
  | (.string bytes, d) => bytes.length + uptoBulk d + 1
  | (_, d) => uptoBulk d + 1
 end
def uptoSmall : (H : Type) → List (DataW H) → Bool := fun _ ds => decide (uptoBulkAll ds ≤ 1048576)
def OpenSpec.upto (s : _root_.Go.ChangeSpec) : _root_.Go.OpenSpec := { _root_.Go.OpenSpec.ofChange s with cond := some uptoSmall }

/-- 'parleylaw03.ArenaBack', WHERE WHAT IT READS IS OF BULK AT MOST 1048576: true; the input reads as it did. -/
def arenaBackUptoRow : OpenClaim := { program := "ytejcbpbhhofhlaadoor", sum := "8d268c914017a77cf529589a9c9ed5be183d2c0c9f455e4f9116b62d7f771903", func := "parley/parleylaw03.ArenaBack", spec := "arenaBack", unfollowed := true, recurses := true, named := ["unicode/utf8.first", "unicode/utf8.acceptRanges", "parley/arena.plain"], apart := false, laid := [("unicode/utf8.acceptRanges", laid_unicode_utf8_acceptRanges), ("parley/arena.plain", laid_parley_arena_plain), ("unicode/utf8.first", laid_unicode_utf8_first)], narrowed := true }
def ArenaBackUptoSaid : Prop := arenaBackUptoRow.holds Tryd.pinned (OpenSpec.upto arenaBackSpec)

/-- 'parleylaw03.ArenaShares', WHERE WHAT IT READS IS OF BULK AT MOST 1048576: true; the input reads as it did. -/
def arenaSharesUptoRow : OpenClaim := { program := "ytejcbpbhhofhlaadoor", sum := "8d268c914017a77cf529589a9c9ed5be183d2c0c9f455e4f9116b62d7f771903", func := "parley/parleylaw03.ArenaShares", spec := "arenaShares", named := ["unicode/utf8.first", "unicode/utf8.acceptRanges", "parley/arena.plain"], apart := false, laid := [("unicode/utf8.acceptRanges", laid_unicode_utf8_acceptRanges), ("parley/arena.plain", laid_parley_arena_plain), ("unicode/utf8.first", laid_unicode_utf8_first)], narrowed := true }
def ArenaSharesUptoSaid : Prop := arenaSharesUptoRow.holds Tryd.pinned (OpenSpec.upto arenaSharesSpec)

/-- 'parleylaw03.ArenaPlays', WHERE WHAT IT READS IS OF BULK AT MOST 1048576: true; the input reads as it did. -/
def arenaPlaysUptoRow : OpenClaim := { program := "ytejcbpbhhofhlaadoor", sum := "8d268c914017a77cf529589a9c9ed5be183d2c0c9f455e4f9116b62d7f771903", func := "parley/parleylaw03.ArenaPlays", spec := "arenaPlays", unfollowed := true, recurses := true, named := ["unicode/utf8.first", "unicode/utf8.acceptRanges", "parley/arena.plain"], apart := false, laid := [("unicode/utf8.acceptRanges", laid_unicode_utf8_acceptRanges), ("parley/arena.plain", laid_parley_arena_plain), ("unicode/utf8.first", laid_unicode_utf8_first)], narrowed := true }
def ArenaPlaysUptoSaid : Prop := arenaPlaysUptoRow.holds Tryd.pinned (OpenSpec.upto arenaPlaysSpec)

/-- 'parleylaw03.ArenaStands', WHERE WHAT IT READS IS OF BULK AT MOST 1048576: true; the input reads as it did. -/
def arenaStandsUptoRow : OpenClaim := { program := "ytejcbpbhhofhlaadoor", sum := "8d268c914017a77cf529589a9c9ed5be183d2c0c9f455e4f9116b62d7f771903", func := "parley/parleylaw03.ArenaStands", spec := "arenaStands", unfollowed := true, recurses := true, named := ["unicode/utf8.first", "unicode/utf8.acceptRanges", "parley/arena.plain"], apart := false, laid := [("unicode/utf8.acceptRanges", laid_unicode_utf8_acceptRanges), ("parley/arena.plain", laid_parley_arena_plain), ("unicode/utf8.first", laid_unicode_utf8_first)], narrowed := true }
def ArenaStandsUptoSaid : Prop := arenaStandsUptoRow.holds Tryd.pinned (OpenSpec.upto arenaStandsSpec)

/-- 'parleylaw03.ArenaNil', WHERE WHAT IT READS IS OF BULK AT MOST 1048576: true; the input reads as it did. -/
def arenaNilUptoRow : OpenClaim := { program := "ytejcbpbhhofhlaadoor", sum := "8d268c914017a77cf529589a9c9ed5be183d2c0c9f455e4f9116b62d7f771903", func := "parley/parleylaw03.ArenaNil", spec := "arenaNil", unfollowed := true, recurses := true, named := ["unicode/utf8.first", "unicode/utf8.acceptRanges", "parley/arena.plain"], apart := false, laid := [("unicode/utf8.acceptRanges", laid_unicode_utf8_acceptRanges), ("parley/arena.plain", laid_parley_arena_plain), ("unicode/utf8.first", laid_unicode_utf8_first)], narrowed := true }
def ArenaNilUptoSaid : Prop := arenaNilUptoRow.holds Tryd.pinned (OpenSpec.upto arenaNilSpec)

end Rows
end Go.Proofs.YtejcbpbhhofhlaaDoor
