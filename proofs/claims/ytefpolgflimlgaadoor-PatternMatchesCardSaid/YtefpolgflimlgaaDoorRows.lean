/-
  NARROWER THAN 'FOR EVERY INPUT', by the rows' own cells (each row's printed sentence says how): OrderOrders: laid · OrderMakes: laid · GuardHolds: laid · GuardMore: laid · OrderParts: laid · PatternMatches: laid · PatternHangs: laid · GuardNot: laid · GuardHangs: laid · OrderBack: laid · PatternRights: laid · PatternOnly: laid · PatternCovers: laid · PatternBack: laid · GuardTests: laid · PatternTurns: laid · OrderCompares: laid · OrderSorts: laid · TreeMore: laid · TreeIdle: laid · TreeNil: laid.
  DERIVED. THE GIVEN ROWS OF THIS SEAT. 21 by the template 'for every input the law returns true; each argument reads behind the call as it read before'; 0 by the template 'total and deterministic' (their statements: YtefpolgflimlgaaDoorTotals.lean).
  GIVEN WITH THE SEED: the statements are not yours to turn. If you find one false, say at which input.
  Laid BY PROGRAM, IN A SANDBOX (cutbox-rows.mjs): the forced cells as the released guide's own fill.sh prints them over the translation e3ef78a73ecc98c2… (all of the seat's roots in one cut). By AI agents, Wed Nov 11 2026. No macro, syntax, notation, axiom, sorry.
-/
import Derived.Test.YtefpolgflimlgaaDoorChecked
import GoSem.PinnedTables
import GoSem.Claim
import GoSem.ClaimJoined
import GoSem.ClaimMapViews
import Derived.JoinedTies
import Derived.KernelRfl
namespace Go.Proofs.YtefpolgflimlgaaDoor
/- THE CELL 'sum', in the pinned program and in every row, IS THE sha256 OF THE DUMP (.gsa) THAT YtefpolgflimlgaaDoorProg.lean LOADS. Nothing in Lean hashes anything: it is a label: what it is worth is what the hold of that sum in a sandbox is worth. -/
noncomputable def Tryd.pinned : Pinned := { name := "ytefpolgflimlgaadoor", sum := "e3ef78a73ecc98c24aaeff1d5bf94c1fb5f3f08a16a8f3df0f117aec2978feb2", checked := Tryd.checked }
namespace Rows
def none {H : Type} : Left H := { results := [], args := [] }

/- WHAT THE LISTED PACKAGE-LEVEL VARIABLES READ AS WHEN THE CALL BEGINS. Each datum BY PROGRAM (the guide's laid-datum.mjs) off the statement by which the dump's own 'gosem.cut.vars' lays the variable. In a bare row this is a premise. The card (YtefpolgflimlgaaDoorCards.lean) ties it to the program's text. -/
def laid_unicode_utf8_acceptRanges {H : Type} : DataW H := .agg [.agg [.lit (.int .u8 128), .lit (.int .u8 191)], .agg [.lit (.int .u8 160), .lit (.int .u8 191)], .agg [.lit (.int .u8 128), .lit (.int .u8 159)], .agg [.lit (.int .u8 144), .lit (.int .u8 191)], .agg [.lit (.int .u8 128), .lit (.int .u8 143)], .agg [.lit (.int .u8 0), .lit (.int .u8 0)], .agg [.lit (.int .u8 0), .lit (.int .u8 0)], .agg [.lit (.int .u8 0), .lit (.int .u8 0)], .agg [.lit (.int .u8 0), .lit (.int .u8 0)], .agg [.lit (.int .u8 0), .lit (.int .u8 0)], .agg [.lit (.int .u8 0), .lit (.int .u8 0)], .agg [.lit (.int .u8 0), .lit (.int .u8 0)], .agg [.lit (.int .u8 0), .lit (.int .u8 0)], .agg [.lit (.int .u8 0), .lit (.int .u8 0)], .agg [.lit (.int .u8 0), .lit (.int .u8 0)], .agg [.lit (.int .u8 0), .lit (.int .u8 0)]]
/-- One of Go's own tables, pinned by name: the form's constant. -/
def laid_unicode_utf8_first : DataW Unit := Go.Pinned.utf8First

/-- 'parleylaw05.OrderOrders': WHATEVER THE INPUT: true; the input reads as it did. -/
def orderOrdersSpec : ChangeSpec := { name := "orderOrders", fn := fun _ => fun
  | [d1, d2, d3] => { results := [.lit (.bool true)], args := [d1, d2, d3] }
  | _ => none }
def orderOrdersRow : OpenClaim := { program := "ytefpolgflimlgaadoor", sum := "e3ef78a73ecc98c24aaeff1d5bf94c1fb5f3f08a16a8f3df0f117aec2978feb2", func := "parley/parleylaw05.OrderOrders", spec := "orderOrders", inPlace := ["internal/bytealg.abigen_runtime_cmpstring"], named := ["unicode/utf8.first", "unicode/utf8.acceptRanges"], plainKeys := false, apart := false, laid := [("unicode/utf8.acceptRanges", laid_unicode_utf8_acceptRanges), ("unicode/utf8.first", laid_unicode_utf8_first)] }
def OrderOrdersSaid : Prop := orderOrdersRow.holds Tryd.pinned (OpenSpec.ofChange orderOrdersSpec)

/-- ITS FALSE NEIGHBOUR: 'it returns false'. Refute it at one input. -/
def orderOrdersWrong : ChangeSpec := { name := "orderOrders", fn := fun _ => fun
  | [d1, d2, d3] => { results := [.lit (.bool false)], args := [d1, d2, d3] }
  | _ => none }
def OrderOrdersWrongFalsely : Prop := orderOrdersRow.holds Tryd.pinned (OpenSpec.ofChange orderOrdersWrong)

/-- 'parleylaw05.OrderMakes': WHATEVER THE INPUT: true; the input reads as it did. -/
def orderMakesSpec : ChangeSpec := { name := "orderMakes", fn := fun _ => fun
  | [d1, d2, d3] => { results := [.lit (.bool true)], args := [d1, d2, d3] }
  | _ => none }
def orderMakesRow : OpenClaim := { program := "ytefpolgflimlgaadoor", sum := "e3ef78a73ecc98c24aaeff1d5bf94c1fb5f3f08a16a8f3df0f117aec2978feb2", func := "parley/parleylaw05.OrderMakes", spec := "orderMakes", inPlace := ["internal/bytealg.abigen_runtime_cmpstring"], named := ["unicode/utf8.first", "unicode/utf8.acceptRanges"], plainKeys := false, apart := false, laid := [("unicode/utf8.acceptRanges", laid_unicode_utf8_acceptRanges), ("unicode/utf8.first", laid_unicode_utf8_first)] }
def OrderMakesSaid : Prop := orderMakesRow.holds Tryd.pinned (OpenSpec.ofChange orderMakesSpec)

/-- ITS FALSE NEIGHBOUR: 'it returns false'. Refute it at one input. -/
def orderMakesWrong : ChangeSpec := { name := "orderMakes", fn := fun _ => fun
  | [d1, d2, d3] => { results := [.lit (.bool false)], args := [d1, d2, d3] }
  | _ => none }
def OrderMakesWrongFalsely : Prop := orderMakesRow.holds Tryd.pinned (OpenSpec.ofChange orderMakesWrong)

/-- 'parleylaw09.GuardHolds': WHATEVER THE INPUT: true; the input reads as it did. -/
def guardHoldsSpec : ChangeSpec := { name := "guardHolds", fn := fun _ => fun
  | [d1, d2] => { results := [.lit (.bool true)], args := [d1, d2] }
  | _ => none }
def guardHoldsRow : OpenClaim := { program := "ytefpolgflimlgaadoor", sum := "e3ef78a73ecc98c24aaeff1d5bf94c1fb5f3f08a16a8f3df0f117aec2978feb2", func := "parley/parleylaw09.GuardHolds", spec := "guardHolds", inPlace := ["internal/bytealg.abigen_runtime_cmpstring"], unfollowed := true, recurses := true, named := ["unicode/utf8.first", "unicode/utf8.acceptRanges"], plainKeys := false, apart := false, laid := [("unicode/utf8.acceptRanges", laid_unicode_utf8_acceptRanges), ("unicode/utf8.first", laid_unicode_utf8_first)] }
def GuardHoldsSaid : Prop := guardHoldsRow.holds Tryd.pinned (OpenSpec.ofChange guardHoldsSpec)

/-- ITS FALSE NEIGHBOUR: 'it returns false'. Refute it at one input. -/
def guardHoldsWrong : ChangeSpec := { name := "guardHolds", fn := fun _ => fun
  | [d1, d2] => { results := [.lit (.bool false)], args := [d1, d2] }
  | _ => none }
def GuardHoldsWrongFalsely : Prop := guardHoldsRow.holds Tryd.pinned (OpenSpec.ofChange guardHoldsWrong)

/-- 'parleylaw09.GuardMore': WHATEVER THE INPUT: true; the input reads as it did. -/
def guardMoreSpec : ChangeSpec := { name := "guardMore", fn := fun _ => fun
  | [d1, d2, d3] => { results := [.lit (.bool true)], args := [d1, d2, d3] }
  | _ => none }
def guardMoreRow : OpenClaim := { program := "ytefpolgflimlgaadoor", sum := "e3ef78a73ecc98c24aaeff1d5bf94c1fb5f3f08a16a8f3df0f117aec2978feb2", func := "parley/parleylaw09.GuardMore", spec := "guardMore", inPlace := ["internal/bytealg.abigen_runtime_cmpstring"], unfollowed := true, recurses := true, named := ["unicode/utf8.first", "unicode/utf8.acceptRanges"], plainKeys := false, apart := false, laid := [("unicode/utf8.acceptRanges", laid_unicode_utf8_acceptRanges), ("unicode/utf8.first", laid_unicode_utf8_first)] }
def GuardMoreSaid : Prop := guardMoreRow.holds Tryd.pinned (OpenSpec.ofChange guardMoreSpec)

/-- ITS FALSE NEIGHBOUR: 'it returns false'. Refute it at one input. -/
def guardMoreWrong : ChangeSpec := { name := "guardMore", fn := fun _ => fun
  | [d1, d2, d3] => { results := [.lit (.bool false)], args := [d1, d2, d3] }
  | _ => none }
def GuardMoreWrongFalsely : Prop := guardMoreRow.holds Tryd.pinned (OpenSpec.ofChange guardMoreWrong)

/-- 'parleylaw05.OrderParts': WHATEVER THE INPUT: true; the input reads as it did. -/
def orderPartsSpec : ChangeSpec := { name := "orderParts", fn := fun _ => fun
  | [d1, d2, d3] => { results := [.lit (.bool true)], args := [d1, d2, d3] }
  | _ => none }
def orderPartsRow : OpenClaim := { program := "ytefpolgflimlgaadoor", sum := "e3ef78a73ecc98c24aaeff1d5bf94c1fb5f3f08a16a8f3df0f117aec2978feb2", func := "parley/parleylaw05.OrderParts", spec := "orderParts", inPlace := ["internal/bytealg.abigen_runtime_cmpstring"], unfollowed := true, recurses := true, named := ["unicode/utf8.first", "unicode/utf8.acceptRanges"], plainKeys := false, apart := false, laid := [("unicode/utf8.acceptRanges", laid_unicode_utf8_acceptRanges), ("unicode/utf8.first", laid_unicode_utf8_first)] }
def OrderPartsSaid : Prop := orderPartsRow.holds Tryd.pinned (OpenSpec.ofChange orderPartsSpec)

/-- ITS FALSE NEIGHBOUR: 'it returns false'. Refute it at one input. -/
def orderPartsWrong : ChangeSpec := { name := "orderParts", fn := fun _ => fun
  | [d1, d2, d3] => { results := [.lit (.bool false)], args := [d1, d2, d3] }
  | _ => none }
def OrderPartsWrongFalsely : Prop := orderPartsRow.holds Tryd.pinned (OpenSpec.ofChange orderPartsWrong)

/-- 'parleylaw08.PatternMatches': WHATEVER THE INPUT: true; the input reads as it did. -/
def patternMatchesSpec : ChangeSpec := { name := "patternMatches", fn := fun _ => fun
  | [d1, d2, d3] => { results := [.lit (.bool true)], args := [d1, d2, d3] }
  | _ => none }
def patternMatchesRow : OpenClaim := { program := "ytefpolgflimlgaadoor", sum := "e3ef78a73ecc98c24aaeff1d5bf94c1fb5f3f08a16a8f3df0f117aec2978feb2", func := "parley/parleylaw08.PatternMatches", spec := "patternMatches", unfollowed := true, recurses := true, named := ["unicode/utf8.first", "unicode/utf8.acceptRanges"], plainKeys := false, apart := false, laid := [("unicode/utf8.acceptRanges", laid_unicode_utf8_acceptRanges), ("unicode/utf8.first", laid_unicode_utf8_first)] }
def PatternMatchesSaid : Prop := patternMatchesRow.holds Tryd.pinned (OpenSpec.ofChange patternMatchesSpec)

/-- ITS FALSE NEIGHBOUR: 'it returns false'. Refute it at one input. -/
def patternMatchesWrong : ChangeSpec := { name := "patternMatches", fn := fun _ => fun
  | [d1, d2, d3] => { results := [.lit (.bool false)], args := [d1, d2, d3] }
  | _ => none }
def PatternMatchesWrongFalsely : Prop := patternMatchesRow.holds Tryd.pinned (OpenSpec.ofChange patternMatchesWrong)

/-- 'parleylaw08.PatternHangs': WHATEVER THE INPUT: true; the input reads as it did. -/
def patternHangsSpec : ChangeSpec := { name := "patternHangs", fn := fun _ => fun
  | [d1, d2, d3, d4] => { results := [.lit (.bool true)], args := [d1, d2, d3, d4] }
  | _ => none }
def patternHangsRow : OpenClaim := { program := "ytefpolgflimlgaadoor", sum := "e3ef78a73ecc98c24aaeff1d5bf94c1fb5f3f08a16a8f3df0f117aec2978feb2", func := "parley/parleylaw08.PatternHangs", spec := "patternHangs", unfollowed := true, recurses := true, named := ["unicode/utf8.first", "unicode/utf8.acceptRanges"], plainKeys := false, apart := false, laid := [("unicode/utf8.acceptRanges", laid_unicode_utf8_acceptRanges), ("unicode/utf8.first", laid_unicode_utf8_first)] }
def PatternHangsSaid : Prop := patternHangsRow.holds Tryd.pinned (OpenSpec.ofChange patternHangsSpec)

/-- ITS FALSE NEIGHBOUR: 'it returns false'. Refute it at one input. -/
def patternHangsWrong : ChangeSpec := { name := "patternHangs", fn := fun _ => fun
  | [d1, d2, d3, d4] => { results := [.lit (.bool false)], args := [d1, d2, d3, d4] }
  | _ => none }
def PatternHangsWrongFalsely : Prop := patternHangsRow.holds Tryd.pinned (OpenSpec.ofChange patternHangsWrong)

/-- 'parleylaw09.GuardNot': WHATEVER THE INPUT: true; the input reads as it did. -/
def guardNotSpec : ChangeSpec := { name := "guardNot", fn := fun _ => fun
  | [d1, d2] => { results := [.lit (.bool true)], args := [d1, d2] }
  | _ => none }
def guardNotRow : OpenClaim := { program := "ytefpolgflimlgaadoor", sum := "e3ef78a73ecc98c24aaeff1d5bf94c1fb5f3f08a16a8f3df0f117aec2978feb2", func := "parley/parleylaw09.GuardNot", spec := "guardNot", inPlace := ["internal/bytealg.abigen_runtime_cmpstring"], unfollowed := true, recurses := true, named := ["unicode/utf8.first", "unicode/utf8.acceptRanges"], plainKeys := false, apart := false, laid := [("unicode/utf8.acceptRanges", laid_unicode_utf8_acceptRanges), ("unicode/utf8.first", laid_unicode_utf8_first)] }
def GuardNotSaid : Prop := guardNotRow.holds Tryd.pinned (OpenSpec.ofChange guardNotSpec)

/-- ITS FALSE NEIGHBOUR: 'it returns false'. Refute it at one input. -/
def guardNotWrong : ChangeSpec := { name := "guardNot", fn := fun _ => fun
  | [d1, d2] => { results := [.lit (.bool false)], args := [d1, d2] }
  | _ => none }
def GuardNotWrongFalsely : Prop := guardNotRow.holds Tryd.pinned (OpenSpec.ofChange guardNotWrong)

/-- 'parleylaw09.GuardHangs': WHATEVER THE INPUT: true; the input reads as it did. -/
def guardHangsSpec : ChangeSpec := { name := "guardHangs", fn := fun _ => fun
  | [d1, d2, d3] => { results := [.lit (.bool true)], args := [d1, d2, d3] }
  | _ => none }
def guardHangsRow : OpenClaim := { program := "ytefpolgflimlgaadoor", sum := "e3ef78a73ecc98c24aaeff1d5bf94c1fb5f3f08a16a8f3df0f117aec2978feb2", func := "parley/parleylaw09.GuardHangs", spec := "guardHangs", inPlace := ["internal/bytealg.abigen_runtime_cmpstring"], unfollowed := true, recurses := true, named := ["unicode/utf8.first", "unicode/utf8.acceptRanges"], plainKeys := false, apart := false, laid := [("unicode/utf8.acceptRanges", laid_unicode_utf8_acceptRanges), ("unicode/utf8.first", laid_unicode_utf8_first)] }
def GuardHangsSaid : Prop := guardHangsRow.holds Tryd.pinned (OpenSpec.ofChange guardHangsSpec)

/-- ITS FALSE NEIGHBOUR: 'it returns false'. Refute it at one input. -/
def guardHangsWrong : ChangeSpec := { name := "guardHangs", fn := fun _ => fun
  | [d1, d2, d3] => { results := [.lit (.bool false)], args := [d1, d2, d3] }
  | _ => none }
def GuardHangsWrongFalsely : Prop := guardHangsRow.holds Tryd.pinned (OpenSpec.ofChange guardHangsWrong)

/-- 'parleylaw05.OrderBack': WHATEVER THE INPUT: true; the input reads as it did. -/
def orderBackSpec : ChangeSpec := { name := "orderBack", fn := fun _ => fun
  | [d1, d2, d3] => { results := [.lit (.bool true)], args := [d1, d2, d3] }
  | _ => none }
def orderBackRow : OpenClaim := { program := "ytefpolgflimlgaadoor", sum := "e3ef78a73ecc98c24aaeff1d5bf94c1fb5f3f08a16a8f3df0f117aec2978feb2", func := "parley/parleylaw05.OrderBack", spec := "orderBack", inPlace := ["internal/bytealg.abigen_runtime_cmpstring"], unfollowed := true, recurses := true, named := ["unicode/utf8.first", "unicode/utf8.acceptRanges"], plainKeys := false, apart := false, laid := [("unicode/utf8.acceptRanges", laid_unicode_utf8_acceptRanges), ("unicode/utf8.first", laid_unicode_utf8_first)] }
def OrderBackSaid : Prop := orderBackRow.holds Tryd.pinned (OpenSpec.ofChange orderBackSpec)

/-- ITS FALSE NEIGHBOUR: 'it returns false'. Refute it at one input. -/
def orderBackWrong : ChangeSpec := { name := "orderBack", fn := fun _ => fun
  | [d1, d2, d3] => { results := [.lit (.bool false)], args := [d1, d2, d3] }
  | _ => none }
def OrderBackWrongFalsely : Prop := orderBackRow.holds Tryd.pinned (OpenSpec.ofChange orderBackWrong)

/-- 'parleylaw08.PatternRights': WHATEVER THE INPUT: true; the input reads as it did. -/
def patternRightsSpec : ChangeSpec := { name := "patternRights", fn := fun _ => fun
  | [d1, d2] => { results := [.lit (.bool true)], args := [d1, d2] }
  | _ => none }
def patternRightsRow : OpenClaim := { program := "ytefpolgflimlgaadoor", sum := "e3ef78a73ecc98c24aaeff1d5bf94c1fb5f3f08a16a8f3df0f117aec2978feb2", func := "parley/parleylaw08.PatternRights", spec := "patternRights", unfollowed := true, recurses := true, named := ["unicode/utf8.first", "unicode/utf8.acceptRanges"], plainKeys := false, apart := false, laid := [("unicode/utf8.acceptRanges", laid_unicode_utf8_acceptRanges), ("unicode/utf8.first", laid_unicode_utf8_first)] }
def PatternRightsSaid : Prop := patternRightsRow.holds Tryd.pinned (OpenSpec.ofChange patternRightsSpec)

/-- ITS FALSE NEIGHBOUR: 'it returns false'. Refute it at one input. -/
def patternRightsWrong : ChangeSpec := { name := "patternRights", fn := fun _ => fun
  | [d1, d2] => { results := [.lit (.bool false)], args := [d1, d2] }
  | _ => none }
def PatternRightsWrongFalsely : Prop := patternRightsRow.holds Tryd.pinned (OpenSpec.ofChange patternRightsWrong)

/-- 'parleylaw08.PatternOnly': WHATEVER THE INPUT: true; the input reads as it did. -/
def patternOnlySpec : ChangeSpec := { name := "patternOnly", fn := fun _ => fun
  | [d1, d2, d3] => { results := [.lit (.bool true)], args := [d1, d2, d3] }
  | _ => none }
def patternOnlyRow : OpenClaim := { program := "ytefpolgflimlgaadoor", sum := "e3ef78a73ecc98c24aaeff1d5bf94c1fb5f3f08a16a8f3df0f117aec2978feb2", func := "parley/parleylaw08.PatternOnly", spec := "patternOnly", unfollowed := true, recurses := true, named := ["unicode/utf8.first", "unicode/utf8.acceptRanges"], plainKeys := false, apart := false, laid := [("unicode/utf8.acceptRanges", laid_unicode_utf8_acceptRanges), ("unicode/utf8.first", laid_unicode_utf8_first)] }
def PatternOnlySaid : Prop := patternOnlyRow.holds Tryd.pinned (OpenSpec.ofChange patternOnlySpec)

/-- ITS FALSE NEIGHBOUR: 'it returns false'. Refute it at one input. -/
def patternOnlyWrong : ChangeSpec := { name := "patternOnly", fn := fun _ => fun
  | [d1, d2, d3] => { results := [.lit (.bool false)], args := [d1, d2, d3] }
  | _ => none }
def PatternOnlyWrongFalsely : Prop := patternOnlyRow.holds Tryd.pinned (OpenSpec.ofChange patternOnlyWrong)

/-- 'parleylaw08.PatternCovers': WHATEVER THE INPUT: true; the input reads as it did. -/
def patternCoversSpec : ChangeSpec := { name := "patternCovers", fn := fun _ => fun
  | [d1, d2, d3, d4, d5] => { results := [.lit (.bool true)], args := [d1, d2, d3, d4, d5] }
  | _ => none }
def patternCoversRow : OpenClaim := { program := "ytefpolgflimlgaadoor", sum := "e3ef78a73ecc98c24aaeff1d5bf94c1fb5f3f08a16a8f3df0f117aec2978feb2", func := "parley/parleylaw08.PatternCovers", spec := "patternCovers", unfollowed := true, recurses := true, named := ["unicode/utf8.first", "unicode/utf8.acceptRanges"], plainKeys := false, apart := false, laid := [("unicode/utf8.acceptRanges", laid_unicode_utf8_acceptRanges), ("unicode/utf8.first", laid_unicode_utf8_first)] }
def PatternCoversSaid : Prop := patternCoversRow.holds Tryd.pinned (OpenSpec.ofChange patternCoversSpec)

/-- ITS FALSE NEIGHBOUR: 'it returns false'. Refute it at one input. -/
def patternCoversWrong : ChangeSpec := { name := "patternCovers", fn := fun _ => fun
  | [d1, d2, d3, d4, d5] => { results := [.lit (.bool false)], args := [d1, d2, d3, d4, d5] }
  | _ => none }
def PatternCoversWrongFalsely : Prop := patternCoversRow.holds Tryd.pinned (OpenSpec.ofChange patternCoversWrong)

/-- 'parleylaw08.PatternBack': WHATEVER THE INPUT: true; the input reads as it did. -/
def patternBackSpec : ChangeSpec := { name := "patternBack", fn := fun _ => fun
  | [d1, d2, d3] => { results := [.lit (.bool true)], args := [d1, d2, d3] }
  | _ => none }
def patternBackRow : OpenClaim := { program := "ytefpolgflimlgaadoor", sum := "e3ef78a73ecc98c24aaeff1d5bf94c1fb5f3f08a16a8f3df0f117aec2978feb2", func := "parley/parleylaw08.PatternBack", spec := "patternBack", unfollowed := true, recurses := true, named := ["unicode/utf8.first", "unicode/utf8.acceptRanges"], plainKeys := false, apart := false, laid := [("unicode/utf8.acceptRanges", laid_unicode_utf8_acceptRanges), ("unicode/utf8.first", laid_unicode_utf8_first)] }
def PatternBackSaid : Prop := patternBackRow.holds Tryd.pinned (OpenSpec.ofChange patternBackSpec)

/-- ITS FALSE NEIGHBOUR: 'it returns false'. Refute it at one input. -/
def patternBackWrong : ChangeSpec := { name := "patternBack", fn := fun _ => fun
  | [d1, d2, d3] => { results := [.lit (.bool false)], args := [d1, d2, d3] }
  | _ => none }
def PatternBackWrongFalsely : Prop := patternBackRow.holds Tryd.pinned (OpenSpec.ofChange patternBackWrong)

/-- 'parleylaw09.GuardTests': WHATEVER THE INPUT: true; the input reads as it did. -/
def guardTestsSpec : ChangeSpec := { name := "guardTests", fn := fun _ => fun
  | [d1, d2, d3, d4, d5] => { results := [.lit (.bool true)], args := [d1, d2, d3, d4, d5] }
  | _ => none }
def guardTestsRow : OpenClaim := { program := "ytefpolgflimlgaadoor", sum := "e3ef78a73ecc98c24aaeff1d5bf94c1fb5f3f08a16a8f3df0f117aec2978feb2", func := "parley/parleylaw09.GuardTests", spec := "guardTests", inPlace := ["internal/bytealg.abigen_runtime_cmpstring"], unfollowed := true, recurses := true, named := ["unicode/utf8.first", "unicode/utf8.acceptRanges"], plainKeys := false, apart := false, laid := [("unicode/utf8.acceptRanges", laid_unicode_utf8_acceptRanges), ("unicode/utf8.first", laid_unicode_utf8_first)] }
def GuardTestsSaid : Prop := guardTestsRow.holds Tryd.pinned (OpenSpec.ofChange guardTestsSpec)

/-- ITS FALSE NEIGHBOUR: 'it returns false'. Refute it at one input. -/
def guardTestsWrong : ChangeSpec := { name := "guardTests", fn := fun _ => fun
  | [d1, d2, d3, d4, d5] => { results := [.lit (.bool false)], args := [d1, d2, d3, d4, d5] }
  | _ => none }
def GuardTestsWrongFalsely : Prop := guardTestsRow.holds Tryd.pinned (OpenSpec.ofChange guardTestsWrong)

/-- 'parleylaw08.PatternTurns': WHATEVER THE INPUT: true; the input reads as it did. -/
def patternTurnsSpec : ChangeSpec := { name := "patternTurns", fn := fun _ => fun
  | [d1, d2, d3, d4] => { results := [.lit (.bool true)], args := [d1, d2, d3, d4] }
  | _ => none }
def patternTurnsRow : OpenClaim := { program := "ytefpolgflimlgaadoor", sum := "e3ef78a73ecc98c24aaeff1d5bf94c1fb5f3f08a16a8f3df0f117aec2978feb2", func := "parley/parleylaw08.PatternTurns", spec := "patternTurns", unfollowed := true, recurses := true, named := ["unicode/utf8.first", "unicode/utf8.acceptRanges"], plainKeys := false, apart := false, laid := [("unicode/utf8.acceptRanges", laid_unicode_utf8_acceptRanges), ("unicode/utf8.first", laid_unicode_utf8_first)] }
def PatternTurnsSaid : Prop := patternTurnsRow.holds Tryd.pinned (OpenSpec.ofChange patternTurnsSpec)

/-- ITS FALSE NEIGHBOUR: 'it returns false'. Refute it at one input. -/
def patternTurnsWrong : ChangeSpec := { name := "patternTurns", fn := fun _ => fun
  | [d1, d2, d3, d4] => { results := [.lit (.bool false)], args := [d1, d2, d3, d4] }
  | _ => none }
def PatternTurnsWrongFalsely : Prop := patternTurnsRow.holds Tryd.pinned (OpenSpec.ofChange patternTurnsWrong)

/-- 'parleylaw05.OrderCompares': WHATEVER THE INPUT: true; the input reads as it did. -/
def orderComparesSpec : ChangeSpec := { name := "orderCompares", fn := fun _ => fun
  | [d1, d2, d3] => { results := [.lit (.bool true)], args := [d1, d2, d3] }
  | _ => none }
def orderComparesRow : OpenClaim := { program := "ytefpolgflimlgaadoor", sum := "e3ef78a73ecc98c24aaeff1d5bf94c1fb5f3f08a16a8f3df0f117aec2978feb2", func := "parley/parleylaw05.OrderCompares", spec := "orderCompares", inPlace := ["internal/bytealg.abigen_runtime_cmpstring"], unfollowed := true, recurses := true, named := ["unicode/utf8.first", "unicode/utf8.acceptRanges"], plainKeys := false, apart := false, laid := [("unicode/utf8.acceptRanges", laid_unicode_utf8_acceptRanges), ("unicode/utf8.first", laid_unicode_utf8_first)] }
def OrderComparesSaid : Prop := orderComparesRow.holds Tryd.pinned (OpenSpec.ofChange orderComparesSpec)

/-- ITS FALSE NEIGHBOUR: 'it returns false'. Refute it at one input. -/
def orderComparesWrong : ChangeSpec := { name := "orderCompares", fn := fun _ => fun
  | [d1, d2, d3] => { results := [.lit (.bool false)], args := [d1, d2, d3] }
  | _ => none }
def OrderComparesWrongFalsely : Prop := orderComparesRow.holds Tryd.pinned (OpenSpec.ofChange orderComparesWrong)

/-- 'parleylaw05.OrderSorts': WHATEVER THE INPUT: true; the input reads as it did. -/
def orderSortsSpec : ChangeSpec := { name := "orderSorts", fn := fun _ => fun
  | [d] => { results := [.lit (.bool true)], args := [d] }
  | _ => none }
def orderSortsRow : OpenClaim := { program := "ytefpolgflimlgaadoor", sum := "e3ef78a73ecc98c24aaeff1d5bf94c1fb5f3f08a16a8f3df0f117aec2978feb2", func := "parley/parleylaw05.OrderSorts", spec := "orderSorts", inPlace := ["internal/bytealg.abigen_runtime_cmpstring"], unfollowed := true, recurses := true, named := ["unicode/utf8.first", "unicode/utf8.acceptRanges"], plainKeys := false, apart := false, laid := [("unicode/utf8.acceptRanges", laid_unicode_utf8_acceptRanges), ("unicode/utf8.first", laid_unicode_utf8_first)] }
def OrderSortsSaid : Prop := orderSortsRow.holds Tryd.pinned (OpenSpec.ofChange orderSortsSpec)

/-- ITS FALSE NEIGHBOUR: 'it returns false'. Refute it at one input. -/
def orderSortsWrong : ChangeSpec := { name := "orderSorts", fn := fun _ => fun
  | [d] => { results := [.lit (.bool false)], args := [d] }
  | _ => none }
def OrderSortsWrongFalsely : Prop := orderSortsRow.holds Tryd.pinned (OpenSpec.ofChange orderSortsWrong)

/-- 'parleylaw10.TreeMore': WHATEVER THE INPUT: true; the input reads as it did. -/
def treeMoreSpec : ChangeSpec := { name := "treeMore", fn := fun _ => fun
  | [d1, d2, d3, d4] => { results := [.lit (.bool true)], args := [d1, d2, d3, d4] }
  | _ => none }
def treeMoreRow : OpenClaim := { program := "ytefpolgflimlgaadoor", sum := "e3ef78a73ecc98c24aaeff1d5bf94c1fb5f3f08a16a8f3df0f117aec2978feb2", func := "parley/parleylaw10.TreeMore", spec := "treeMore", inPlace := ["internal/bytealg.abigen_runtime_cmpstring"], unfollowed := true, recurses := true, named := ["unicode/utf8.first", "unicode/utf8.acceptRanges"], plainKeys := false, apart := false, laid := [("unicode/utf8.acceptRanges", laid_unicode_utf8_acceptRanges), ("unicode/utf8.first", laid_unicode_utf8_first)] }
def TreeMoreSaid : Prop := treeMoreRow.holds Tryd.pinned (OpenSpec.ofChange treeMoreSpec)

/-- ITS FALSE NEIGHBOUR: 'it returns false'. Refute it at one input. -/
def treeMoreWrong : ChangeSpec := { name := "treeMore", fn := fun _ => fun
  | [d1, d2, d3, d4] => { results := [.lit (.bool false)], args := [d1, d2, d3, d4] }
  | _ => none }
def TreeMoreWrongFalsely : Prop := treeMoreRow.holds Tryd.pinned (OpenSpec.ofChange treeMoreWrong)

/-- 'parleylaw10.TreeIdle': WHATEVER THE INPUT: true; the input reads as it did. -/
def treeIdleSpec : ChangeSpec := { name := "treeIdle", fn := fun _ => fun
  | [d1, d2, d3] => { results := [.lit (.bool true)], args := [d1, d2, d3] }
  | _ => none }
def treeIdleRow : OpenClaim := { program := "ytefpolgflimlgaadoor", sum := "e3ef78a73ecc98c24aaeff1d5bf94c1fb5f3f08a16a8f3df0f117aec2978feb2", func := "parley/parleylaw10.TreeIdle", spec := "treeIdle", inPlace := ["internal/bytealg.abigen_runtime_cmpstring"], unfollowed := true, recurses := true, named := ["unicode/utf8.first", "unicode/utf8.acceptRanges"], plainKeys := false, apart := false, laid := [("unicode/utf8.acceptRanges", laid_unicode_utf8_acceptRanges), ("unicode/utf8.first", laid_unicode_utf8_first)] }
def TreeIdleSaid : Prop := treeIdleRow.holds Tryd.pinned (OpenSpec.ofChange treeIdleSpec)

/-- ITS FALSE NEIGHBOUR: 'it returns false'. Refute it at one input. -/
def treeIdleWrong : ChangeSpec := { name := "treeIdle", fn := fun _ => fun
  | [d1, d2, d3] => { results := [.lit (.bool false)], args := [d1, d2, d3] }
  | _ => none }
def TreeIdleWrongFalsely : Prop := treeIdleRow.holds Tryd.pinned (OpenSpec.ofChange treeIdleWrong)

/-- 'parleylaw10.TreeNil': WHATEVER THE INPUT: true; the input reads as it did. -/
def treeNilSpec : ChangeSpec := { name := "treeNil", fn := fun _ => fun
  | [d1, d2, d3] => { results := [.lit (.bool true)], args := [d1, d2, d3] }
  | _ => none }
def treeNilRow : OpenClaim := { program := "ytefpolgflimlgaadoor", sum := "e3ef78a73ecc98c24aaeff1d5bf94c1fb5f3f08a16a8f3df0f117aec2978feb2", func := "parley/parleylaw10.TreeNil", spec := "treeNil", inPlace := ["internal/bytealg.abigen_runtime_cmpstring"], unfollowed := true, recurses := true, named := ["unicode/utf8.first", "unicode/utf8.acceptRanges"], plainKeys := false, apart := false, laid := [("unicode/utf8.acceptRanges", laid_unicode_utf8_acceptRanges), ("unicode/utf8.first", laid_unicode_utf8_first)] }
def TreeNilSaid : Prop := treeNilRow.holds Tryd.pinned (OpenSpec.ofChange treeNilSpec)

/-- ITS FALSE NEIGHBOUR: 'it returns false'. Refute it at one input. -/
def treeNilWrong : ChangeSpec := { name := "treeNil", fn := fun _ => fun
  | [d1, d2, d3] => { results := [.lit (.bool false)], args := [d1, d2, d3] }
  | _ => none }
def TreeNilWrongFalsely : Prop := treeNilRow.holds Tryd.pinned (OpenSpec.ofChange treeNilWrong)

/- THE SECOND FORM. 'bulk': how many values and letters a reading holds, each counted each time it is reached (what is shared counts as often as it is met; a slice's spare places count too). A statement '..UptoSaid' is the law's where the arguments, and the package variables that the reading takes, are together of bulk at most 1048576: NARROWER than '..Said'. Prove '..Said' where nothing that the law and all that it calls make is longer than what came in: it says more and counts as full. Else prove '..UptoSaid'. A law counts once. -/
mutual
def uptoBulk {H : Type} : DataW H → Nat
  | .lit (.string bytes) => bytes.length + 1
  | .lit _ => 1
  | .nil => 1
  | .ptr d => uptoBulk d + 1
  | .slice elems spare => uptoBulkAll elems + uptoBulkAll spare + 1
  | .agg parts => uptoBulkAll parts + 1
  | .iface _ d => uptoBulk d + 1
  | .map entries => uptoBulkEntries entries + 1
  | .held _ => 1
def uptoBulkAll {H : Type} : List (DataW H) → Nat
  | [] => 0
  | d :: r => uptoBulk d + uptoBulkAll r
def uptoBulkEntries {H : Type} : List (Lit × DataW H) → Nat
  | [] => 0
  | x :: r => uptoBulkEntry x + uptoBulkEntries r
def uptoBulkEntry {H : Type} : Lit × DataW H → Nat
  | (.string bytes, d) => bytes.length + uptoBulk d + 1
  | (_, d) => uptoBulk d + 1
 end
def uptoSmall : (H : Type) → List (DataW H) → Bool := fun _ ds => decide (uptoBulkAll ds ≤ 1048576)
def OpenSpec.upto (s : _root_.Go.ChangeSpec) : _root_.Go.OpenSpec := { _root_.Go.OpenSpec.ofChange s with cond := some uptoSmall }

/-- 'parleylaw05.OrderOrders', WHERE WHAT IT READS IS OF BULK AT MOST 1048576: true; the input reads as it did. -/
def orderOrdersUptoRow : OpenClaim := { program := "ytefpolgflimlgaadoor", sum := "e3ef78a73ecc98c24aaeff1d5bf94c1fb5f3f08a16a8f3df0f117aec2978feb2", func := "parley/parleylaw05.OrderOrders", spec := "orderOrders", inPlace := ["internal/bytealg.abigen_runtime_cmpstring"], named := ["unicode/utf8.first", "unicode/utf8.acceptRanges"], plainKeys := false, apart := false, laid := [("unicode/utf8.acceptRanges", laid_unicode_utf8_acceptRanges), ("unicode/utf8.first", laid_unicode_utf8_first)], narrowed := true }
def OrderOrdersUptoSaid : Prop := orderOrdersUptoRow.holds Tryd.pinned (OpenSpec.upto orderOrdersSpec)

/-- 'parleylaw05.OrderMakes', WHERE WHAT IT READS IS OF BULK AT MOST 1048576: true; the input reads as it did. -/
def orderMakesUptoRow : OpenClaim := { program := "ytefpolgflimlgaadoor", sum := "e3ef78a73ecc98c24aaeff1d5bf94c1fb5f3f08a16a8f3df0f117aec2978feb2", func := "parley/parleylaw05.OrderMakes", spec := "orderMakes", inPlace := ["internal/bytealg.abigen_runtime_cmpstring"], named := ["unicode/utf8.first", "unicode/utf8.acceptRanges"], plainKeys := false, apart := false, laid := [("unicode/utf8.acceptRanges", laid_unicode_utf8_acceptRanges), ("unicode/utf8.first", laid_unicode_utf8_first)], narrowed := true }
def OrderMakesUptoSaid : Prop := orderMakesUptoRow.holds Tryd.pinned (OpenSpec.upto orderMakesSpec)

/-- 'parleylaw09.GuardHolds', WHERE WHAT IT READS IS OF BULK AT MOST 1048576: true; the input reads as it did. -/
def guardHoldsUptoRow : OpenClaim := { program := "ytefpolgflimlgaadoor", sum := "e3ef78a73ecc98c24aaeff1d5bf94c1fb5f3f08a16a8f3df0f117aec2978feb2", func := "parley/parleylaw09.GuardHolds", spec := "guardHolds", inPlace := ["internal/bytealg.abigen_runtime_cmpstring"], unfollowed := true, recurses := true, named := ["unicode/utf8.first", "unicode/utf8.acceptRanges"], plainKeys := false, apart := false, laid := [("unicode/utf8.acceptRanges", laid_unicode_utf8_acceptRanges), ("unicode/utf8.first", laid_unicode_utf8_first)], narrowed := true }
def GuardHoldsUptoSaid : Prop := guardHoldsUptoRow.holds Tryd.pinned (OpenSpec.upto guardHoldsSpec)

/-- 'parleylaw09.GuardMore', WHERE WHAT IT READS IS OF BULK AT MOST 1048576: true; the input reads as it did. -/
def guardMoreUptoRow : OpenClaim := { program := "ytefpolgflimlgaadoor", sum := "e3ef78a73ecc98c24aaeff1d5bf94c1fb5f3f08a16a8f3df0f117aec2978feb2", func := "parley/parleylaw09.GuardMore", spec := "guardMore", inPlace := ["internal/bytealg.abigen_runtime_cmpstring"], unfollowed := true, recurses := true, named := ["unicode/utf8.first", "unicode/utf8.acceptRanges"], plainKeys := false, apart := false, laid := [("unicode/utf8.acceptRanges", laid_unicode_utf8_acceptRanges), ("unicode/utf8.first", laid_unicode_utf8_first)], narrowed := true }
def GuardMoreUptoSaid : Prop := guardMoreUptoRow.holds Tryd.pinned (OpenSpec.upto guardMoreSpec)

/-- 'parleylaw05.OrderParts', WHERE WHAT IT READS IS OF BULK AT MOST 1048576: true; the input reads as it did. -/
def orderPartsUptoRow : OpenClaim := { program := "ytefpolgflimlgaadoor", sum := "e3ef78a73ecc98c24aaeff1d5bf94c1fb5f3f08a16a8f3df0f117aec2978feb2", func := "parley/parleylaw05.OrderParts", spec := "orderParts", inPlace := ["internal/bytealg.abigen_runtime_cmpstring"], unfollowed := true, recurses := true, named := ["unicode/utf8.first", "unicode/utf8.acceptRanges"], plainKeys := false, apart := false, laid := [("unicode/utf8.acceptRanges", laid_unicode_utf8_acceptRanges), ("unicode/utf8.first", laid_unicode_utf8_first)], narrowed := true }
def OrderPartsUptoSaid : Prop := orderPartsUptoRow.holds Tryd.pinned (OpenSpec.upto orderPartsSpec)

/-- 'parleylaw08.PatternMatches', WHERE WHAT IT READS IS OF BULK AT MOST 1048576: true; the input reads as it did. -/
def patternMatchesUptoRow : OpenClaim := { program := "ytefpolgflimlgaadoor", sum := "e3ef78a73ecc98c24aaeff1d5bf94c1fb5f3f08a16a8f3df0f117aec2978feb2", func := "parley/parleylaw08.PatternMatches", spec := "patternMatches", unfollowed := true, recurses := true, named := ["unicode/utf8.first", "unicode/utf8.acceptRanges"], plainKeys := false, apart := false, laid := [("unicode/utf8.acceptRanges", laid_unicode_utf8_acceptRanges), ("unicode/utf8.first", laid_unicode_utf8_first)], narrowed := true }
def PatternMatchesUptoSaid : Prop := patternMatchesUptoRow.holds Tryd.pinned (OpenSpec.upto patternMatchesSpec)

/-- 'parleylaw08.PatternHangs', WHERE WHAT IT READS IS OF BULK AT MOST 1048576: true; the input reads as it did. -/
def patternHangsUptoRow : OpenClaim := { program := "ytefpolgflimlgaadoor", sum := "e3ef78a73ecc98c24aaeff1d5bf94c1fb5f3f08a16a8f3df0f117aec2978feb2", func := "parley/parleylaw08.PatternHangs", spec := "patternHangs", unfollowed := true, recurses := true, named := ["unicode/utf8.first", "unicode/utf8.acceptRanges"], plainKeys := false, apart := false, laid := [("unicode/utf8.acceptRanges", laid_unicode_utf8_acceptRanges), ("unicode/utf8.first", laid_unicode_utf8_first)], narrowed := true }
def PatternHangsUptoSaid : Prop := patternHangsUptoRow.holds Tryd.pinned (OpenSpec.upto patternHangsSpec)

/-- 'parleylaw09.GuardNot', WHERE WHAT IT READS IS OF BULK AT MOST 1048576: true; the input reads as it did. -/
def guardNotUptoRow : OpenClaim := { program := "ytefpolgflimlgaadoor", sum := "e3ef78a73ecc98c24aaeff1d5bf94c1fb5f3f08a16a8f3df0f117aec2978feb2", func := "parley/parleylaw09.GuardNot", spec := "guardNot", inPlace := ["internal/bytealg.abigen_runtime_cmpstring"], unfollowed := true, recurses := true, named := ["unicode/utf8.first", "unicode/utf8.acceptRanges"], plainKeys := false, apart := false, laid := [("unicode/utf8.acceptRanges", laid_unicode_utf8_acceptRanges), ("unicode/utf8.first", laid_unicode_utf8_first)], narrowed := true }
def GuardNotUptoSaid : Prop := guardNotUptoRow.holds Tryd.pinned (OpenSpec.upto guardNotSpec)

/-- 'parleylaw09.GuardHangs', WHERE WHAT IT READS IS OF BULK AT MOST 1048576: true; the input reads as it did. -/
def guardHangsUptoRow : OpenClaim := { program := "ytefpolgflimlgaadoor", sum := "e3ef78a73ecc98c24aaeff1d5bf94c1fb5f3f08a16a8f3df0f117aec2978feb2", func := "parley/parleylaw09.GuardHangs", spec := "guardHangs", inPlace := ["internal/bytealg.abigen_runtime_cmpstring"], unfollowed := true, recurses := true, named := ["unicode/utf8.first", "unicode/utf8.acceptRanges"], plainKeys := false, apart := false, laid := [("unicode/utf8.acceptRanges", laid_unicode_utf8_acceptRanges), ("unicode/utf8.first", laid_unicode_utf8_first)], narrowed := true }
def GuardHangsUptoSaid : Prop := guardHangsUptoRow.holds Tryd.pinned (OpenSpec.upto guardHangsSpec)

/-- 'parleylaw05.OrderBack', WHERE WHAT IT READS IS OF BULK AT MOST 1048576: true; the input reads as it did. -/
def orderBackUptoRow : OpenClaim := { program := "ytefpolgflimlgaadoor", sum := "e3ef78a73ecc98c24aaeff1d5bf94c1fb5f3f08a16a8f3df0f117aec2978feb2", func := "parley/parleylaw05.OrderBack", spec := "orderBack", inPlace := ["internal/bytealg.abigen_runtime_cmpstring"], unfollowed := true, recurses := true, named := ["unicode/utf8.first", "unicode/utf8.acceptRanges"], plainKeys := false, apart := false, laid := [("unicode/utf8.acceptRanges", laid_unicode_utf8_acceptRanges), ("unicode/utf8.first", laid_unicode_utf8_first)], narrowed := true }
def OrderBackUptoSaid : Prop := orderBackUptoRow.holds Tryd.pinned (OpenSpec.upto orderBackSpec)

/-- 'parleylaw08.PatternRights', WHERE WHAT IT READS IS OF BULK AT MOST 1048576: true; the input reads as it did. -/
def patternRightsUptoRow : OpenClaim := { program := "ytefpolgflimlgaadoor", sum := "e3ef78a73ecc98c24aaeff1d5bf94c1fb5f3f08a16a8f3df0f117aec2978feb2", func := "parley/parleylaw08.PatternRights", spec := "patternRights", unfollowed := true, recurses := true, named := ["unicode/utf8.first", "unicode/utf8.acceptRanges"], plainKeys := false, apart := false, laid := [("unicode/utf8.acceptRanges", laid_unicode_utf8_acceptRanges), ("unicode/utf8.first", laid_unicode_utf8_first)], narrowed := true }
def PatternRightsUptoSaid : Prop := patternRightsUptoRow.holds Tryd.pinned (OpenSpec.upto patternRightsSpec)

/-- 'parleylaw08.PatternOnly', WHERE WHAT IT READS IS OF BULK AT MOST 1048576: true; the input reads as it did. -/
def patternOnlyUptoRow : OpenClaim := { program := "ytefpolgflimlgaadoor", sum := "e3ef78a73ecc98c24aaeff1d5bf94c1fb5f3f08a16a8f3df0f117aec2978feb2", func := "parley/parleylaw08.PatternOnly", spec := "patternOnly", unfollowed := true, recurses := true, named := ["unicode/utf8.first", "unicode/utf8.acceptRanges"], plainKeys := false, apart := false, laid := [("unicode/utf8.acceptRanges", laid_unicode_utf8_acceptRanges), ("unicode/utf8.first", laid_unicode_utf8_first)], narrowed := true }
def PatternOnlyUptoSaid : Prop := patternOnlyUptoRow.holds Tryd.pinned (OpenSpec.upto patternOnlySpec)

/-- 'parleylaw08.PatternCovers', WHERE WHAT IT READS IS OF BULK AT MOST 1048576: true; the input reads as it did. -/
def patternCoversUptoRow : OpenClaim := { program := "ytefpolgflimlgaadoor", sum := "e3ef78a73ecc98c24aaeff1d5bf94c1fb5f3f08a16a8f3df0f117aec2978feb2", func := "parley/parleylaw08.PatternCovers", spec := "patternCovers", unfollowed := true, recurses := true, named := ["unicode/utf8.first", "unicode/utf8.acceptRanges"], plainKeys := false, apart := false, laid := [("unicode/utf8.acceptRanges", laid_unicode_utf8_acceptRanges), ("unicode/utf8.first", laid_unicode_utf8_first)], narrowed := true }
def PatternCoversUptoSaid : Prop := patternCoversUptoRow.holds Tryd.pinned (OpenSpec.upto patternCoversSpec)

/-- 'parleylaw08.PatternBack', WHERE WHAT IT READS IS OF BULK AT MOST 1048576: true; the input reads as it did. -/
def patternBackUptoRow : OpenClaim := { program := "ytefpolgflimlgaadoor", sum := "e3ef78a73ecc98c24aaeff1d5bf94c1fb5f3f08a16a8f3df0f117aec2978feb2", func := "parley/parleylaw08.PatternBack", spec := "patternBack", unfollowed := true, recurses := true, named := ["unicode/utf8.first", "unicode/utf8.acceptRanges"], plainKeys := false, apart := false, laid := [("unicode/utf8.acceptRanges", laid_unicode_utf8_acceptRanges), ("unicode/utf8.first", laid_unicode_utf8_first)], narrowed := true }
def PatternBackUptoSaid : Prop := patternBackUptoRow.holds Tryd.pinned (OpenSpec.upto patternBackSpec)

/-- 'parleylaw09.GuardTests', WHERE WHAT IT READS IS OF BULK AT MOST 1048576: true; the input reads as it did. -/
def guardTestsUptoRow : OpenClaim := { program := "ytefpolgflimlgaadoor", sum := "e3ef78a73ecc98c24aaeff1d5bf94c1fb5f3f08a16a8f3df0f117aec2978feb2", func := "parley/parleylaw09.GuardTests", spec := "guardTests", inPlace := ["internal/bytealg.abigen_runtime_cmpstring"], unfollowed := true, recurses := true, named := ["unicode/utf8.first", "unicode/utf8.acceptRanges"], plainKeys := false, apart := false, laid := [("unicode/utf8.acceptRanges", laid_unicode_utf8_acceptRanges), ("unicode/utf8.first", laid_unicode_utf8_first)], narrowed := true }
def GuardTestsUptoSaid : Prop := guardTestsUptoRow.holds Tryd.pinned (OpenSpec.upto guardTestsSpec)

/-- 'parleylaw08.PatternTurns', WHERE WHAT IT READS IS OF BULK AT MOST 1048576: true; the input reads as it did. -/
def patternTurnsUptoRow : OpenClaim := { program := "ytefpolgflimlgaadoor", sum := "e3ef78a73ecc98c24aaeff1d5bf94c1fb5f3f08a16a8f3df0f117aec2978feb2", func := "parley/parleylaw08.PatternTurns", spec := "patternTurns", unfollowed := true, recurses := true, named := ["unicode/utf8.first", "unicode/utf8.acceptRanges"], plainKeys := false, apart := false, laid := [("unicode/utf8.acceptRanges", laid_unicode_utf8_acceptRanges), ("unicode/utf8.first", laid_unicode_utf8_first)], narrowed := true }
def PatternTurnsUptoSaid : Prop := patternTurnsUptoRow.holds Tryd.pinned (OpenSpec.upto patternTurnsSpec)

/-- 'parleylaw05.OrderCompares', WHERE WHAT IT READS IS OF BULK AT MOST 1048576: true; the input reads as it did. -/
def orderComparesUptoRow : OpenClaim := { program := "ytefpolgflimlgaadoor", sum := "e3ef78a73ecc98c24aaeff1d5bf94c1fb5f3f08a16a8f3df0f117aec2978feb2", func := "parley/parleylaw05.OrderCompares", spec := "orderCompares", inPlace := ["internal/bytealg.abigen_runtime_cmpstring"], unfollowed := true, recurses := true, named := ["unicode/utf8.first", "unicode/utf8.acceptRanges"], plainKeys := false, apart := false, laid := [("unicode/utf8.acceptRanges", laid_unicode_utf8_acceptRanges), ("unicode/utf8.first", laid_unicode_utf8_first)], narrowed := true }
def OrderComparesUptoSaid : Prop := orderComparesUptoRow.holds Tryd.pinned (OpenSpec.upto orderComparesSpec)

/-- 'parleylaw05.OrderSorts', WHERE WHAT IT READS IS OF BULK AT MOST 1048576: true; the input reads as it did. -/
def orderSortsUptoRow : OpenClaim := { program := "ytefpolgflimlgaadoor", sum := "e3ef78a73ecc98c24aaeff1d5bf94c1fb5f3f08a16a8f3df0f117aec2978feb2", func := "parley/parleylaw05.OrderSorts", spec := "orderSorts", inPlace := ["internal/bytealg.abigen_runtime_cmpstring"], unfollowed := true, recurses := true, named := ["unicode/utf8.first", "unicode/utf8.acceptRanges"], plainKeys := false, apart := false, laid := [("unicode/utf8.acceptRanges", laid_unicode_utf8_acceptRanges), ("unicode/utf8.first", laid_unicode_utf8_first)], narrowed := true }
def OrderSortsUptoSaid : Prop := orderSortsUptoRow.holds Tryd.pinned (OpenSpec.upto orderSortsSpec)

/-- 'parleylaw10.TreeMore', WHERE WHAT IT READS IS OF BULK AT MOST 1048576: true; the input reads as it did. -/
def treeMoreUptoRow : OpenClaim := { program := "ytefpolgflimlgaadoor", sum := "e3ef78a73ecc98c24aaeff1d5bf94c1fb5f3f08a16a8f3df0f117aec2978feb2", func := "parley/parleylaw10.TreeMore", spec := "treeMore", inPlace := ["internal/bytealg.abigen_runtime_cmpstring"], unfollowed := true, recurses := true, named := ["unicode/utf8.first", "unicode/utf8.acceptRanges"], plainKeys := false, apart := false, laid := [("unicode/utf8.acceptRanges", laid_unicode_utf8_acceptRanges), ("unicode/utf8.first", laid_unicode_utf8_first)], narrowed := true }
def TreeMoreUptoSaid : Prop := treeMoreUptoRow.holds Tryd.pinned (OpenSpec.upto treeMoreSpec)

/-- 'parleylaw10.TreeIdle', WHERE WHAT IT READS IS OF BULK AT MOST 1048576: true; the input reads as it did. -/
def treeIdleUptoRow : OpenClaim := { program := "ytefpolgflimlgaadoor", sum := "e3ef78a73ecc98c24aaeff1d5bf94c1fb5f3f08a16a8f3df0f117aec2978feb2", func := "parley/parleylaw10.TreeIdle", spec := "treeIdle", inPlace := ["internal/bytealg.abigen_runtime_cmpstring"], unfollowed := true, recurses := true, named := ["unicode/utf8.first", "unicode/utf8.acceptRanges"], plainKeys := false, apart := false, laid := [("unicode/utf8.acceptRanges", laid_unicode_utf8_acceptRanges), ("unicode/utf8.first", laid_unicode_utf8_first)], narrowed := true }
def TreeIdleUptoSaid : Prop := treeIdleUptoRow.holds Tryd.pinned (OpenSpec.upto treeIdleSpec)

/-- 'parleylaw10.TreeNil', WHERE WHAT IT READS IS OF BULK AT MOST 1048576: true; the input reads as it did. -/
def treeNilUptoRow : OpenClaim := { program := "ytefpolgflimlgaadoor", sum := "e3ef78a73ecc98c24aaeff1d5bf94c1fb5f3f08a16a8f3df0f117aec2978feb2", func := "parley/parleylaw10.TreeNil", spec := "treeNil", inPlace := ["internal/bytealg.abigen_runtime_cmpstring"], unfollowed := true, recurses := true, named := ["unicode/utf8.first", "unicode/utf8.acceptRanges"], plainKeys := false, apart := false, laid := [("unicode/utf8.acceptRanges", laid_unicode_utf8_acceptRanges), ("unicode/utf8.first", laid_unicode_utf8_first)], narrowed := true }
def TreeNilUptoSaid : Prop := treeNilUptoRow.holds Tryd.pinned (OpenSpec.upto treeNilSpec)

end Rows
end Go.Proofs.YtefpolgflimlgaaDoor
