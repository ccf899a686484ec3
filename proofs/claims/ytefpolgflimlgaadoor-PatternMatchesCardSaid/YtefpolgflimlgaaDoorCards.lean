/-
  DERIVED. GIVEN WITH THE SEED: THE CARDS: each row of YtefpolgflimlgaaDoorRows.lean that lists a variable, with what it lists TIED to the program's text (the seventh form; the later family's looks); each row that meets fmt, with fmt's text TOLD by the authors' own Lean function (tested against real Go, not proved from fmt's source: count such statements apart). THE CARD IS WHAT COUNTS. Prove the row's statement (the work); the ties are given (YtefpolgflimlgaaDoorTie.lean); close each card by the builder's one call (the guide's Derived/Test/ToyasCard.lean, 'card_holds'). Laid BY PROGRAM, IN A SANDBOX (cutbox-door.mjs). By AI agents, Wed Nov 11 2026. No macro, syntax, notation, axiom, sorry.
-/
import Derived.Test.YtefpolgflimlgaaDoorRows
import GoSem.ClaimSeven
namespace Go.Proofs.YtefpolgflimlgaaDoor
namespace Rows

/-- THE TIED CARD OF 'parleylaw05.OrderOrders'. -/
def orderOrdersCard : Claim7 := { stood := { row := orderOrdersRow, standIns := [], harness := (true, "830e03fe86859d38aff468b98ccd1635aebf1c78043e8771f85409ee163c348a"), looks := true }, kinds := [], alts := [], laidByText := true, laidKinds := [.data, .pinned], laidTests := true, laidLooks := .later }
def OrderOrdersCardSaid : Prop := Claim7.holds Tryd.pinned (.plain (OpenSpec.ofChange orderOrdersSpec)) orderOrdersCard

/-- THE TIED CARD OF 'parleylaw05.OrderMakes'. -/
def orderMakesCard : Claim7 := { stood := { row := orderMakesRow, standIns := [], harness := (true, "830e03fe86859d38aff468b98ccd1635aebf1c78043e8771f85409ee163c348a"), looks := true }, kinds := [], alts := [], laidByText := true, laidKinds := [.data, .pinned], laidTests := true, laidLooks := .later }
def OrderMakesCardSaid : Prop := Claim7.holds Tryd.pinned (.plain (OpenSpec.ofChange orderMakesSpec)) orderMakesCard

/-- THE TIED CARD OF 'parleylaw09.GuardHolds'. -/
def guardHoldsCard : Claim7 := { stood := { row := guardHoldsRow, standIns := [], harness := (true, "830e03fe86859d38aff468b98ccd1635aebf1c78043e8771f85409ee163c348a"), looks := true }, kinds := [], alts := [], laidByText := true, laidKinds := [.data, .pinned], laidTests := true, laidLooks := .later }
def GuardHoldsCardSaid : Prop := Claim7.holds Tryd.pinned (.plain (OpenSpec.ofChange guardHoldsSpec)) guardHoldsCard

/-- THE TIED CARD OF 'parleylaw09.GuardMore'. -/
def guardMoreCard : Claim7 := { stood := { row := guardMoreRow, standIns := [], harness := (true, "830e03fe86859d38aff468b98ccd1635aebf1c78043e8771f85409ee163c348a"), looks := true }, kinds := [], alts := [], laidByText := true, laidKinds := [.data, .pinned], laidTests := true, laidLooks := .later }
def GuardMoreCardSaid : Prop := Claim7.holds Tryd.pinned (.plain (OpenSpec.ofChange guardMoreSpec)) guardMoreCard

/-- THE TIED CARD OF 'parleylaw05.OrderParts'. -/
def orderPartsCard : Claim7 := { stood := { row := orderPartsRow, standIns := [], harness := (true, "830e03fe86859d38aff468b98ccd1635aebf1c78043e8771f85409ee163c348a"), looks := true }, kinds := [], alts := [], laidByText := true, laidKinds := [.data, .pinned], laidTests := true, laidLooks := .later }
def OrderPartsCardSaid : Prop := Claim7.holds Tryd.pinned (.plain (OpenSpec.ofChange orderPartsSpec)) orderPartsCard

/-- THE TIED CARD OF 'parleylaw08.PatternMatches'. -/
def patternMatchesCard : Claim7 := { stood := { row := patternMatchesRow, standIns := [], harness := (true, "830e03fe86859d38aff468b98ccd1635aebf1c78043e8771f85409ee163c348a"), looks := true }, kinds := [], alts := [], laidByText := true, laidKinds := [.data, .pinned], laidTests := true, laidLooks := .later }
def PatternMatchesCardSaid : Prop := Claim7.holds Tryd.pinned (.plain (OpenSpec.ofChange patternMatchesSpec)) patternMatchesCard

/-- THE TIED CARD OF 'parleylaw08.PatternHangs'. -/
def patternHangsCard : Claim7 := { stood := { row := patternHangsRow, standIns := [], harness := (true, "830e03fe86859d38aff468b98ccd1635aebf1c78043e8771f85409ee163c348a"), looks := true }, kinds := [], alts := [], laidByText := true, laidKinds := [.data, .pinned], laidTests := true, laidLooks := .later }
def PatternHangsCardSaid : Prop := Claim7.holds Tryd.pinned (.plain (OpenSpec.ofChange patternHangsSpec)) patternHangsCard

/-- THE TIED CARD OF 'parleylaw09.GuardNot'. -/
def guardNotCard : Claim7 := { stood := { row := guardNotRow, standIns := [], harness := (true, "830e03fe86859d38aff468b98ccd1635aebf1c78043e8771f85409ee163c348a"), looks := true }, kinds := [], alts := [], laidByText := true, laidKinds := [.data, .pinned], laidTests := true, laidLooks := .later }
def GuardNotCardSaid : Prop := Claim7.holds Tryd.pinned (.plain (OpenSpec.ofChange guardNotSpec)) guardNotCard

/-- THE TIED CARD OF 'parleylaw09.GuardHangs'. -/
def guardHangsCard : Claim7 := { stood := { row := guardHangsRow, standIns := [], harness := (true, "830e03fe86859d38aff468b98ccd1635aebf1c78043e8771f85409ee163c348a"), looks := true }, kinds := [], alts := [], laidByText := true, laidKinds := [.data, .pinned], laidTests := true, laidLooks := .later }
def GuardHangsCardSaid : Prop := Claim7.holds Tryd.pinned (.plain (OpenSpec.ofChange guardHangsSpec)) guardHangsCard

/-- THE TIED CARD OF 'parleylaw05.OrderBack'. -/
def orderBackCard : Claim7 := { stood := { row := orderBackRow, standIns := [], harness := (true, "830e03fe86859d38aff468b98ccd1635aebf1c78043e8771f85409ee163c348a"), looks := true }, kinds := [], alts := [], laidByText := true, laidKinds := [.data, .pinned], laidTests := true, laidLooks := .later }
def OrderBackCardSaid : Prop := Claim7.holds Tryd.pinned (.plain (OpenSpec.ofChange orderBackSpec)) orderBackCard

/-- THE TIED CARD OF 'parleylaw08.PatternRights'. -/
def patternRightsCard : Claim7 := { stood := { row := patternRightsRow, standIns := [], harness := (true, "830e03fe86859d38aff468b98ccd1635aebf1c78043e8771f85409ee163c348a"), looks := true }, kinds := [], alts := [], laidByText := true, laidKinds := [.data, .pinned], laidTests := true, laidLooks := .later }
def PatternRightsCardSaid : Prop := Claim7.holds Tryd.pinned (.plain (OpenSpec.ofChange patternRightsSpec)) patternRightsCard

/-- THE TIED CARD OF 'parleylaw08.PatternOnly'. -/
def patternOnlyCard : Claim7 := { stood := { row := patternOnlyRow, standIns := [], harness := (true, "830e03fe86859d38aff468b98ccd1635aebf1c78043e8771f85409ee163c348a"), looks := true }, kinds := [], alts := [], laidByText := true, laidKinds := [.data, .pinned], laidTests := true, laidLooks := .later }
def PatternOnlyCardSaid : Prop := Claim7.holds Tryd.pinned (.plain (OpenSpec.ofChange patternOnlySpec)) patternOnlyCard

/-- THE TIED CARD OF 'parleylaw08.PatternCovers'. -/
def patternCoversCard : Claim7 := { stood := { row := patternCoversRow, standIns := [], harness := (true, "830e03fe86859d38aff468b98ccd1635aebf1c78043e8771f85409ee163c348a"), looks := true }, kinds := [], alts := [], laidByText := true, laidKinds := [.data, .pinned], laidTests := true, laidLooks := .later }
def PatternCoversCardSaid : Prop := Claim7.holds Tryd.pinned (.plain (OpenSpec.ofChange patternCoversSpec)) patternCoversCard

/-- THE TIED CARD OF 'parleylaw08.PatternBack'. -/
def patternBackCard : Claim7 := { stood := { row := patternBackRow, standIns := [], harness := (true, "830e03fe86859d38aff468b98ccd1635aebf1c78043e8771f85409ee163c348a"), looks := true }, kinds := [], alts := [], laidByText := true, laidKinds := [.data, .pinned], laidTests := true, laidLooks := .later }
def PatternBackCardSaid : Prop := Claim7.holds Tryd.pinned (.plain (OpenSpec.ofChange patternBackSpec)) patternBackCard

/-- THE TIED CARD OF 'parleylaw09.GuardTests'. -/
def guardTestsCard : Claim7 := { stood := { row := guardTestsRow, standIns := [], harness := (true, "830e03fe86859d38aff468b98ccd1635aebf1c78043e8771f85409ee163c348a"), looks := true }, kinds := [], alts := [], laidByText := true, laidKinds := [.data, .pinned], laidTests := true, laidLooks := .later }
def GuardTestsCardSaid : Prop := Claim7.holds Tryd.pinned (.plain (OpenSpec.ofChange guardTestsSpec)) guardTestsCard

/-- THE TIED CARD OF 'parleylaw08.PatternTurns'. -/
def patternTurnsCard : Claim7 := { stood := { row := patternTurnsRow, standIns := [], harness := (true, "830e03fe86859d38aff468b98ccd1635aebf1c78043e8771f85409ee163c348a"), looks := true }, kinds := [], alts := [], laidByText := true, laidKinds := [.data, .pinned], laidTests := true, laidLooks := .later }
def PatternTurnsCardSaid : Prop := Claim7.holds Tryd.pinned (.plain (OpenSpec.ofChange patternTurnsSpec)) patternTurnsCard

/-- THE TIED CARD OF 'parleylaw05.OrderCompares'. -/
def orderComparesCard : Claim7 := { stood := { row := orderComparesRow, standIns := [], harness := (true, "830e03fe86859d38aff468b98ccd1635aebf1c78043e8771f85409ee163c348a"), looks := true }, kinds := [], alts := [], laidByText := true, laidKinds := [.data, .pinned], laidTests := true, laidLooks := .later }
def OrderComparesCardSaid : Prop := Claim7.holds Tryd.pinned (.plain (OpenSpec.ofChange orderComparesSpec)) orderComparesCard

/-- THE TIED CARD OF 'parleylaw05.OrderSorts'. -/
def orderSortsCard : Claim7 := { stood := { row := orderSortsRow, standIns := [], harness := (true, "830e03fe86859d38aff468b98ccd1635aebf1c78043e8771f85409ee163c348a"), looks := true }, kinds := [], alts := [], laidByText := true, laidKinds := [.data, .pinned], laidTests := true, laidLooks := .later }
def OrderSortsCardSaid : Prop := Claim7.holds Tryd.pinned (.plain (OpenSpec.ofChange orderSortsSpec)) orderSortsCard

/-- THE TIED CARD OF 'parleylaw10.TreeMore'. -/
def treeMoreCard : Claim7 := { stood := { row := treeMoreRow, standIns := [], harness := (true, "830e03fe86859d38aff468b98ccd1635aebf1c78043e8771f85409ee163c348a"), looks := true }, kinds := [], alts := [], laidByText := true, laidKinds := [.data, .pinned], laidTests := true, laidLooks := .later }
def TreeMoreCardSaid : Prop := Claim7.holds Tryd.pinned (.plain (OpenSpec.ofChange treeMoreSpec)) treeMoreCard

/-- THE TIED CARD OF 'parleylaw10.TreeIdle'. -/
def treeIdleCard : Claim7 := { stood := { row := treeIdleRow, standIns := [], harness := (true, "830e03fe86859d38aff468b98ccd1635aebf1c78043e8771f85409ee163c348a"), looks := true }, kinds := [], alts := [], laidByText := true, laidKinds := [.data, .pinned], laidTests := true, laidLooks := .later }
def TreeIdleCardSaid : Prop := Claim7.holds Tryd.pinned (.plain (OpenSpec.ofChange treeIdleSpec)) treeIdleCard

/-- THE TIED CARD OF 'parleylaw10.TreeNil'. -/
def treeNilCard : Claim7 := { stood := { row := treeNilRow, standIns := [], harness := (true, "830e03fe86859d38aff468b98ccd1635aebf1c78043e8771f85409ee163c348a"), looks := true }, kinds := [], alts := [], laidByText := true, laidKinds := [.data, .pinned], laidTests := true, laidLooks := .later }
def TreeNilCardSaid : Prop := Claim7.holds Tryd.pinned (.plain (OpenSpec.ofChange treeNilSpec)) treeNilCard

/-- THE SECOND FORM's CARD OF 'parleylaw05.OrderOrders'. -/
def orderOrdersUptoCard : Claim7 := { stood := { row := orderOrdersUptoRow, standIns := [], harness := (true, "830e03fe86859d38aff468b98ccd1635aebf1c78043e8771f85409ee163c348a"), looks := true }, kinds := [], alts := [], laidByText := true, laidKinds := [.data, .pinned], laidTests := true, laidLooks := .later }
def OrderOrdersUptoCardSaid : Prop := Claim7.holds Tryd.pinned (.plain (OpenSpec.upto orderOrdersSpec)) orderOrdersUptoCard

/-- THE SECOND FORM's CARD OF 'parleylaw05.OrderMakes'. -/
def orderMakesUptoCard : Claim7 := { stood := { row := orderMakesUptoRow, standIns := [], harness := (true, "830e03fe86859d38aff468b98ccd1635aebf1c78043e8771f85409ee163c348a"), looks := true }, kinds := [], alts := [], laidByText := true, laidKinds := [.data, .pinned], laidTests := true, laidLooks := .later }
def OrderMakesUptoCardSaid : Prop := Claim7.holds Tryd.pinned (.plain (OpenSpec.upto orderMakesSpec)) orderMakesUptoCard

/-- THE SECOND FORM's CARD OF 'parleylaw09.GuardHolds'. -/
def guardHoldsUptoCard : Claim7 := { stood := { row := guardHoldsUptoRow, standIns := [], harness := (true, "830e03fe86859d38aff468b98ccd1635aebf1c78043e8771f85409ee163c348a"), looks := true }, kinds := [], alts := [], laidByText := true, laidKinds := [.data, .pinned], laidTests := true, laidLooks := .later }
def GuardHoldsUptoCardSaid : Prop := Claim7.holds Tryd.pinned (.plain (OpenSpec.upto guardHoldsSpec)) guardHoldsUptoCard

/-- THE SECOND FORM's CARD OF 'parleylaw09.GuardMore'. -/
def guardMoreUptoCard : Claim7 := { stood := { row := guardMoreUptoRow, standIns := [], harness := (true, "830e03fe86859d38aff468b98ccd1635aebf1c78043e8771f85409ee163c348a"), looks := true }, kinds := [], alts := [], laidByText := true, laidKinds := [.data, .pinned], laidTests := true, laidLooks := .later }
def GuardMoreUptoCardSaid : Prop := Claim7.holds Tryd.pinned (.plain (OpenSpec.upto guardMoreSpec)) guardMoreUptoCard

/-- THE SECOND FORM's CARD OF 'parleylaw05.OrderParts'. -/
def orderPartsUptoCard : Claim7 := { stood := { row := orderPartsUptoRow, standIns := [], harness := (true, "830e03fe86859d38aff468b98ccd1635aebf1c78043e8771f85409ee163c348a"), looks := true }, kinds := [], alts := [], laidByText := true, laidKinds := [.data, .pinned], laidTests := true, laidLooks := .later }
def OrderPartsUptoCardSaid : Prop := Claim7.holds Tryd.pinned (.plain (OpenSpec.upto orderPartsSpec)) orderPartsUptoCard

/-- THE SECOND FORM's CARD OF 'parleylaw08.PatternMatches'. -/
def patternMatchesUptoCard : Claim7 := { stood := { row := patternMatchesUptoRow, standIns := [], harness := (true, "830e03fe86859d38aff468b98ccd1635aebf1c78043e8771f85409ee163c348a"), looks := true }, kinds := [], alts := [], laidByText := true, laidKinds := [.data, .pinned], laidTests := true, laidLooks := .later }
def PatternMatchesUptoCardSaid : Prop := Claim7.holds Tryd.pinned (.plain (OpenSpec.upto patternMatchesSpec)) patternMatchesUptoCard

/-- THE SECOND FORM's CARD OF 'parleylaw08.PatternHangs'. -/
def patternHangsUptoCard : Claim7 := { stood := { row := patternHangsUptoRow, standIns := [], harness := (true, "830e03fe86859d38aff468b98ccd1635aebf1c78043e8771f85409ee163c348a"), looks := true }, kinds := [], alts := [], laidByText := true, laidKinds := [.data, .pinned], laidTests := true, laidLooks := .later }
def PatternHangsUptoCardSaid : Prop := Claim7.holds Tryd.pinned (.plain (OpenSpec.upto patternHangsSpec)) patternHangsUptoCard

/-- THE SECOND FORM's CARD OF 'parleylaw09.GuardNot'. -/
def guardNotUptoCard : Claim7 := { stood := { row := guardNotUptoRow, standIns := [], harness := (true, "830e03fe86859d38aff468b98ccd1635aebf1c78043e8771f85409ee163c348a"), looks := true }, kinds := [], alts := [], laidByText := true, laidKinds := [.data, .pinned], laidTests := true, laidLooks := .later }
def GuardNotUptoCardSaid : Prop := Claim7.holds Tryd.pinned (.plain (OpenSpec.upto guardNotSpec)) guardNotUptoCard

/-- THE SECOND FORM's CARD OF 'parleylaw09.GuardHangs'. -/
def guardHangsUptoCard : Claim7 := { stood := { row := guardHangsUptoRow, standIns := [], harness := (true, "830e03fe86859d38aff468b98ccd1635aebf1c78043e8771f85409ee163c348a"), looks := true }, kinds := [], alts := [], laidByText := true, laidKinds := [.data, .pinned], laidTests := true, laidLooks := .later }
def GuardHangsUptoCardSaid : Prop := Claim7.holds Tryd.pinned (.plain (OpenSpec.upto guardHangsSpec)) guardHangsUptoCard

/-- THE SECOND FORM's CARD OF 'parleylaw05.OrderBack'. -/
def orderBackUptoCard : Claim7 := { stood := { row := orderBackUptoRow, standIns := [], harness := (true, "830e03fe86859d38aff468b98ccd1635aebf1c78043e8771f85409ee163c348a"), looks := true }, kinds := [], alts := [], laidByText := true, laidKinds := [.data, .pinned], laidTests := true, laidLooks := .later }
def OrderBackUptoCardSaid : Prop := Claim7.holds Tryd.pinned (.plain (OpenSpec.upto orderBackSpec)) orderBackUptoCard

/-- THE SECOND FORM's CARD OF 'parleylaw08.PatternRights'. -/
def patternRightsUptoCard : Claim7 := { stood := { row := patternRightsUptoRow, standIns := [], harness := (true, "830e03fe86859d38aff468b98ccd1635aebf1c78043e8771f85409ee163c348a"), looks := true }, kinds := [], alts := [], laidByText := true, laidKinds := [.data, .pinned], laidTests := true, laidLooks := .later }
def PatternRightsUptoCardSaid : Prop := Claim7.holds Tryd.pinned (.plain (OpenSpec.upto patternRightsSpec)) patternRightsUptoCard

/-- THE SECOND FORM's CARD OF 'parleylaw08.PatternOnly'. -/
def patternOnlyUptoCard : Claim7 := { stood := { row := patternOnlyUptoRow, standIns := [], harness := (true, "830e03fe86859d38aff468b98ccd1635aebf1c78043e8771f85409ee163c348a"), looks := true }, kinds := [], alts := [], laidByText := true, laidKinds := [.data, .pinned], laidTests := true, laidLooks := .later }
def PatternOnlyUptoCardSaid : Prop := Claim7.holds Tryd.pinned (.plain (OpenSpec.upto patternOnlySpec)) patternOnlyUptoCard

/-- THE SECOND FORM's CARD OF 'parleylaw08.PatternCovers'. -/
def patternCoversUptoCard : Claim7 := { stood := { row := patternCoversUptoRow, standIns := [], harness := (true, "830e03fe86859d38aff468b98ccd1635aebf1c78043e8771f85409ee163c348a"), looks := true }, kinds := [], alts := [], laidByText := true, laidKinds := [.data, .pinned], laidTests := true, laidLooks := .later }
def PatternCoversUptoCardSaid : Prop := Claim7.holds Tryd.pinned (.plain (OpenSpec.upto patternCoversSpec)) patternCoversUptoCard

/-- THE SECOND FORM's CARD OF 'parleylaw08.PatternBack'. -/
def patternBackUptoCard : Claim7 := { stood := { row := patternBackUptoRow, standIns := [], harness := (true, "830e03fe86859d38aff468b98ccd1635aebf1c78043e8771f85409ee163c348a"), looks := true }, kinds := [], alts := [], laidByText := true, laidKinds := [.data, .pinned], laidTests := true, laidLooks := .later }
def PatternBackUptoCardSaid : Prop := Claim7.holds Tryd.pinned (.plain (OpenSpec.upto patternBackSpec)) patternBackUptoCard

/-- THE SECOND FORM's CARD OF 'parleylaw09.GuardTests'. -/
def guardTestsUptoCard : Claim7 := { stood := { row := guardTestsUptoRow, standIns := [], harness := (true, "830e03fe86859d38aff468b98ccd1635aebf1c78043e8771f85409ee163c348a"), looks := true }, kinds := [], alts := [], laidByText := true, laidKinds := [.data, .pinned], laidTests := true, laidLooks := .later }
def GuardTestsUptoCardSaid : Prop := Claim7.holds Tryd.pinned (.plain (OpenSpec.upto guardTestsSpec)) guardTestsUptoCard

/-- THE SECOND FORM's CARD OF 'parleylaw08.PatternTurns'. -/
def patternTurnsUptoCard : Claim7 := { stood := { row := patternTurnsUptoRow, standIns := [], harness := (true, "830e03fe86859d38aff468b98ccd1635aebf1c78043e8771f85409ee163c348a"), looks := true }, kinds := [], alts := [], laidByText := true, laidKinds := [.data, .pinned], laidTests := true, laidLooks := .later }
def PatternTurnsUptoCardSaid : Prop := Claim7.holds Tryd.pinned (.plain (OpenSpec.upto patternTurnsSpec)) patternTurnsUptoCard

/-- THE SECOND FORM's CARD OF 'parleylaw05.OrderCompares'. -/
def orderComparesUptoCard : Claim7 := { stood := { row := orderComparesUptoRow, standIns := [], harness := (true, "830e03fe86859d38aff468b98ccd1635aebf1c78043e8771f85409ee163c348a"), looks := true }, kinds := [], alts := [], laidByText := true, laidKinds := [.data, .pinned], laidTests := true, laidLooks := .later }
def OrderComparesUptoCardSaid : Prop := Claim7.holds Tryd.pinned (.plain (OpenSpec.upto orderComparesSpec)) orderComparesUptoCard

/-- THE SECOND FORM's CARD OF 'parleylaw05.OrderSorts'. -/
def orderSortsUptoCard : Claim7 := { stood := { row := orderSortsUptoRow, standIns := [], harness := (true, "830e03fe86859d38aff468b98ccd1635aebf1c78043e8771f85409ee163c348a"), looks := true }, kinds := [], alts := [], laidByText := true, laidKinds := [.data, .pinned], laidTests := true, laidLooks := .later }
def OrderSortsUptoCardSaid : Prop := Claim7.holds Tryd.pinned (.plain (OpenSpec.upto orderSortsSpec)) orderSortsUptoCard

/-- THE SECOND FORM's CARD OF 'parleylaw10.TreeMore'. -/
def treeMoreUptoCard : Claim7 := { stood := { row := treeMoreUptoRow, standIns := [], harness := (true, "830e03fe86859d38aff468b98ccd1635aebf1c78043e8771f85409ee163c348a"), looks := true }, kinds := [], alts := [], laidByText := true, laidKinds := [.data, .pinned], laidTests := true, laidLooks := .later }
def TreeMoreUptoCardSaid : Prop := Claim7.holds Tryd.pinned (.plain (OpenSpec.upto treeMoreSpec)) treeMoreUptoCard

/-- THE SECOND FORM's CARD OF 'parleylaw10.TreeIdle'. -/
def treeIdleUptoCard : Claim7 := { stood := { row := treeIdleUptoRow, standIns := [], harness := (true, "830e03fe86859d38aff468b98ccd1635aebf1c78043e8771f85409ee163c348a"), looks := true }, kinds := [], alts := [], laidByText := true, laidKinds := [.data, .pinned], laidTests := true, laidLooks := .later }
def TreeIdleUptoCardSaid : Prop := Claim7.holds Tryd.pinned (.plain (OpenSpec.upto treeIdleSpec)) treeIdleUptoCard

/-- THE SECOND FORM's CARD OF 'parleylaw10.TreeNil'. -/
def treeNilUptoCard : Claim7 := { stood := { row := treeNilUptoRow, standIns := [], harness := (true, "830e03fe86859d38aff468b98ccd1635aebf1c78043e8771f85409ee163c348a"), looks := true }, kinds := [], alts := [], laidByText := true, laidKinds := [.data, .pinned], laidTests := true, laidLooks := .later }
def TreeNilUptoCardSaid : Prop := Claim7.holds Tryd.pinned (.plain (OpenSpec.upto treeNilSpec)) treeNilUptoCard
end Rows
end Go.Proofs.YtefpolgflimlgaaDoor
