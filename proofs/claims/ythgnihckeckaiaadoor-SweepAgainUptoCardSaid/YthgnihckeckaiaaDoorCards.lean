/-
  DERIVED. GIVEN WITH THE SEED: THE CARDS: each row of YthgnihckeckaiaaDoorRows.lean that lists a variable, with what it lists TIED to the program's text (the seventh form; the later family's looks); each row that meets fmt, with fmt's text TOLD by the authors' own Lean function (tested against real Go, not proved from fmt's source: count such statements apart). THE CARD IS WHAT COUNTS. Prove the row's statement (the work); the ties are given (YthgnihckeckaiaaDoorTie.lean); close each card by the builder's one call (the guide's Derived/Test/ToyasCard.lean, 'card_holds'). Laid BY PROGRAM, IN A SANDBOX (cutbox-door.mjs). By AI agents, Wed Nov 11 2026. No macro, syntax, notation, axiom, sorry.
-/
import Derived.Test.YthgnihckeckaiaaDoorRows
import GoSem.ClaimSeven
namespace Go.Proofs.YthgnihckeckaiaaDoor
namespace Rows

/-- THE TIED CARD OF 'parleylaw03.ArenaStands'. -/
def arenaStandsCard : Claim7 := { stood := { row := arenaStandsRow, standIns := [], harness := (true, "d7e8f476a4ba1cd5a8cdf4ad097856ec5f71fc1a1500496f8f370b09ed436e9c"), looks := false }, kinds := [], alts := [], laidByText := true, laidKinds := [.data, .data, .pinned], laidTests := true, laidLooks := .later }
def ArenaStandsCardSaid : Prop := Claim7.holds Tryd.pinned (.plain (OpenSpec.ofChange arenaStandsSpec)) arenaStandsCard

/-- THE TIED CARD OF 'parleylaw04.DeepCells'. -/
def deepCellsCard : Claim7 := { stood := { row := deepCellsRow, standIns := [], harness := (true, "d7e8f476a4ba1cd5a8cdf4ad097856ec5f71fc1a1500496f8f370b09ed436e9c"), looks := false }, kinds := [], alts := [], laidByText := true, laidKinds := [.data, .data, .pinned], laidTests := true, laidLooks := .later }
def DeepCellsCardSaid : Prop := Claim7.holds Tryd.pinned (.plain (OpenSpec.ofChange deepCellsSpec)) deepCellsCard

/-- THE TIED CARD OF 'parleylaw04.DeepObjects'. -/
def deepObjectsCard : Claim7 := { stood := { row := deepObjectsRow, standIns := [], harness := (true, "d7e8f476a4ba1cd5a8cdf4ad097856ec5f71fc1a1500496f8f370b09ed436e9c"), looks := false }, kinds := [], alts := [], laidByText := true, laidKinds := [.data, .data, .pinned], laidTests := true, laidLooks := .later }
def DeepObjectsCardSaid : Prop := Claim7.holds Tryd.pinned (.plain (OpenSpec.ofChange deepObjectsSpec)) deepObjectsCard

/-- THE TIED CARD OF 'parleylaw04.DeepReaches'. -/
def deepReachesCard : Claim7 := { stood := { row := deepReachesRow, standIns := [], harness := (true, "d7e8f476a4ba1cd5a8cdf4ad097856ec5f71fc1a1500496f8f370b09ed436e9c"), looks := false }, kinds := [], alts := [], laidByText := true, laidKinds := [.data, .data, .pinned], laidTests := true, laidLooks := .later }
def DeepReachesCardSaid : Prop := Claim7.holds Tryd.pinned (.plain (OpenSpec.ofChange deepReachesSpec)) deepReachesCard

/-- THE TIED CARD OF 'parleylaw04.DeepNests'. -/
def deepNestsCard : Claim7 := { stood := { row := deepNestsRow, standIns := [], harness := (true, "d7e8f476a4ba1cd5a8cdf4ad097856ec5f71fc1a1500496f8f370b09ed436e9c"), looks := false }, kinds := [], alts := [], laidByText := true, laidKinds := [.data, .data, .pinned], laidTests := true, laidLooks := .later }
def DeepNestsCardSaid : Prop := Claim7.holds Tryd.pinned (.plain (OpenSpec.ofChange deepNestsSpec)) deepNestsCard

/-- THE TIED CARD OF 'parleylaw04.DeepApart'. -/
def deepApartCard : Claim7 := { stood := { row := deepApartRow, standIns := [], harness := (true, "d7e8f476a4ba1cd5a8cdf4ad097856ec5f71fc1a1500496f8f370b09ed436e9c"), looks := false }, kinds := [], alts := [], laidByText := true, laidKinds := [.data, .data, .pinned], laidTests := true, laidLooks := .later }
def DeepApartCardSaid : Prop := Claim7.holds Tryd.pinned (.plain (OpenSpec.ofChange deepApartSpec)) deepApartCard

/-- THE TIED CARD OF 'parleylaw04.DeepCopies'. -/
def deepCopiesCard : Claim7 := { stood := { row := deepCopiesRow, standIns := [], harness := (true, "d7e8f476a4ba1cd5a8cdf4ad097856ec5f71fc1a1500496f8f370b09ed436e9c"), looks := false }, kinds := [], alts := [], laidByText := true, laidKinds := [.data, .data, .pinned], laidTests := true, laidLooks := .later }
def DeepCopiesCardSaid : Prop := Claim7.holds Tryd.pinned (.plain (OpenSpec.ofChange deepCopiesSpec)) deepCopiesCard

/-- THE TIED CARD OF 'parleylaw04.DeepEquals'. -/
def deepEqualsCard : Claim7 := { stood := { row := deepEqualsRow, standIns := [], harness := (true, "d7e8f476a4ba1cd5a8cdf4ad097856ec5f71fc1a1500496f8f370b09ed436e9c"), looks := false }, kinds := [], alts := [], laidByText := true, laidKinds := [.data, .data, .pinned], laidTests := true, laidLooks := .later }
def DeepEqualsCardSaid : Prop := Claim7.holds Tryd.pinned (.plain (OpenSpec.ofChange deepEqualsSpec)) deepEqualsCard

/-- THE TIED CARD OF 'parleylaw04.DeepNil'. -/
def deepNilCard : Claim7 := { stood := { row := deepNilRow, standIns := [], harness := (true, "d7e8f476a4ba1cd5a8cdf4ad097856ec5f71fc1a1500496f8f370b09ed436e9c"), looks := false }, kinds := [], alts := [], laidByText := true, laidKinds := [.data, .data, .pinned], laidTests := true, laidLooks := .later }
def DeepNilCardSaid : Prop := Claim7.holds Tryd.pinned (.plain (OpenSpec.ofChange deepNilSpec)) deepNilCard

/-- THE TIED CARD OF 'parleylaw23.SweepShares'. -/
def sweepSharesCard : Claim7 := { stood := { row := sweepSharesRow, standIns := [], harness := (true, "d7e8f476a4ba1cd5a8cdf4ad097856ec5f71fc1a1500496f8f370b09ed436e9c"), looks := false }, kinds := [], alts := [], laidByText := true, laidKinds := [.data, .data, .pinned], laidTests := true, laidLooks := .later }
def SweepSharesCardSaid : Prop := Claim7.holds Tryd.pinned (.plain (OpenSpec.ofChange sweepSharesSpec)) sweepSharesCard

/-- THE TIED CARD OF 'parleylaw23.SweepReaches'. -/
def sweepReachesCard : Claim7 := { stood := { row := sweepReachesRow, standIns := [], harness := (true, "d7e8f476a4ba1cd5a8cdf4ad097856ec5f71fc1a1500496f8f370b09ed436e9c"), looks := false }, kinds := [], alts := [], laidByText := true, laidKinds := [.data, .data, .pinned], laidTests := true, laidLooks := .later }
def SweepReachesCardSaid : Prop := Claim7.holds Tryd.pinned (.plain (OpenSpec.ofChange sweepReachesSpec)) sweepReachesCard

/-- THE TIED CARD OF 'parleylaw23.SweepNil'. -/
def sweepNilCard : Claim7 := { stood := { row := sweepNilRow, standIns := [], harness := (true, "d7e8f476a4ba1cd5a8cdf4ad097856ec5f71fc1a1500496f8f370b09ed436e9c"), looks := false }, kinds := [], alts := [], laidByText := true, laidKinds := [.data, .data, .pinned], laidTests := true, laidLooks := .later }
def SweepNilCardSaid : Prop := Claim7.holds Tryd.pinned (.plain (OpenSpec.ofChange sweepNilSpec)) sweepNilCard

/-- THE TIED CARD OF 'parleylaw23.SweepCollects'. -/
def sweepCollectsCard : Claim7 := { stood := { row := sweepCollectsRow, standIns := [], harness := (true, "d7e8f476a4ba1cd5a8cdf4ad097856ec5f71fc1a1500496f8f370b09ed436e9c"), looks := false }, kinds := [], alts := [], laidByText := true, laidKinds := [.data, .data, .pinned], laidTests := true, laidLooks := .later }
def SweepCollectsCardSaid : Prop := Claim7.holds Tryd.pinned (.plain (OpenSpec.ofChange sweepCollectsSpec)) sweepCollectsCard

/-- THE TIED CARD OF 'parleylaw23.SweepAgain'. -/
def sweepAgainCard : Claim7 := { stood := { row := sweepAgainRow, standIns := [], harness := (true, "d7e8f476a4ba1cd5a8cdf4ad097856ec5f71fc1a1500496f8f370b09ed436e9c"), looks := false }, kinds := [], alts := [], laidByText := true, laidKinds := [.data, .data, .pinned], laidTests := true, laidLooks := .later }
def SweepAgainCardSaid : Prop := Claim7.holds Tryd.pinned (.plain (OpenSpec.ofChange sweepAgainSpec)) sweepAgainCard

/-- THE SECOND FORM's CARD OF 'parleylaw03.ArenaStands'. -/
def arenaStandsUptoCard : Claim7 := { stood := { row := arenaStandsUptoRow, standIns := [], harness := (true, "d7e8f476a4ba1cd5a8cdf4ad097856ec5f71fc1a1500496f8f370b09ed436e9c"), looks := false }, kinds := [], alts := [], laidByText := true, laidKinds := [.data, .data, .pinned], laidTests := true, laidLooks := .later }
def ArenaStandsUptoCardSaid : Prop := Claim7.holds Tryd.pinned (.plain (OpenSpec.upto arenaStandsSpec)) arenaStandsUptoCard

/-- THE SECOND FORM's CARD OF 'parleylaw04.DeepCells'. -/
def deepCellsUptoCard : Claim7 := { stood := { row := deepCellsUptoRow, standIns := [], harness := (true, "d7e8f476a4ba1cd5a8cdf4ad097856ec5f71fc1a1500496f8f370b09ed436e9c"), looks := false }, kinds := [], alts := [], laidByText := true, laidKinds := [.data, .data, .pinned], laidTests := true, laidLooks := .later }
def DeepCellsUptoCardSaid : Prop := Claim7.holds Tryd.pinned (.plain (OpenSpec.upto deepCellsSpec)) deepCellsUptoCard

/-- THE SECOND FORM's CARD OF 'parleylaw04.DeepObjects'. -/
def deepObjectsUptoCard : Claim7 := { stood := { row := deepObjectsUptoRow, standIns := [], harness := (true, "d7e8f476a4ba1cd5a8cdf4ad097856ec5f71fc1a1500496f8f370b09ed436e9c"), looks := false }, kinds := [], alts := [], laidByText := true, laidKinds := [.data, .data, .pinned], laidTests := true, laidLooks := .later }
def DeepObjectsUptoCardSaid : Prop := Claim7.holds Tryd.pinned (.plain (OpenSpec.upto deepObjectsSpec)) deepObjectsUptoCard

/-- THE SECOND FORM's CARD OF 'parleylaw04.DeepReaches'. -/
def deepReachesUptoCard : Claim7 := { stood := { row := deepReachesUptoRow, standIns := [], harness := (true, "d7e8f476a4ba1cd5a8cdf4ad097856ec5f71fc1a1500496f8f370b09ed436e9c"), looks := false }, kinds := [], alts := [], laidByText := true, laidKinds := [.data, .data, .pinned], laidTests := true, laidLooks := .later }
def DeepReachesUptoCardSaid : Prop := Claim7.holds Tryd.pinned (.plain (OpenSpec.upto deepReachesSpec)) deepReachesUptoCard

/-- THE SECOND FORM's CARD OF 'parleylaw04.DeepNests'. -/
def deepNestsUptoCard : Claim7 := { stood := { row := deepNestsUptoRow, standIns := [], harness := (true, "d7e8f476a4ba1cd5a8cdf4ad097856ec5f71fc1a1500496f8f370b09ed436e9c"), looks := false }, kinds := [], alts := [], laidByText := true, laidKinds := [.data, .data, .pinned], laidTests := true, laidLooks := .later }
def DeepNestsUptoCardSaid : Prop := Claim7.holds Tryd.pinned (.plain (OpenSpec.upto deepNestsSpec)) deepNestsUptoCard

/-- THE SECOND FORM's CARD OF 'parleylaw04.DeepApart'. -/
def deepApartUptoCard : Claim7 := { stood := { row := deepApartUptoRow, standIns := [], harness := (true, "d7e8f476a4ba1cd5a8cdf4ad097856ec5f71fc1a1500496f8f370b09ed436e9c"), looks := false }, kinds := [], alts := [], laidByText := true, laidKinds := [.data, .data, .pinned], laidTests := true, laidLooks := .later }
def DeepApartUptoCardSaid : Prop := Claim7.holds Tryd.pinned (.plain (OpenSpec.upto deepApartSpec)) deepApartUptoCard

/-- THE SECOND FORM's CARD OF 'parleylaw04.DeepCopies'. -/
def deepCopiesUptoCard : Claim7 := { stood := { row := deepCopiesUptoRow, standIns := [], harness := (true, "d7e8f476a4ba1cd5a8cdf4ad097856ec5f71fc1a1500496f8f370b09ed436e9c"), looks := false }, kinds := [], alts := [], laidByText := true, laidKinds := [.data, .data, .pinned], laidTests := true, laidLooks := .later }
def DeepCopiesUptoCardSaid : Prop := Claim7.holds Tryd.pinned (.plain (OpenSpec.upto deepCopiesSpec)) deepCopiesUptoCard

/-- THE SECOND FORM's CARD OF 'parleylaw04.DeepEquals'. -/
def deepEqualsUptoCard : Claim7 := { stood := { row := deepEqualsUptoRow, standIns := [], harness := (true, "d7e8f476a4ba1cd5a8cdf4ad097856ec5f71fc1a1500496f8f370b09ed436e9c"), looks := false }, kinds := [], alts := [], laidByText := true, laidKinds := [.data, .data, .pinned], laidTests := true, laidLooks := .later }
def DeepEqualsUptoCardSaid : Prop := Claim7.holds Tryd.pinned (.plain (OpenSpec.upto deepEqualsSpec)) deepEqualsUptoCard

/-- THE SECOND FORM's CARD OF 'parleylaw04.DeepNil'. -/
def deepNilUptoCard : Claim7 := { stood := { row := deepNilUptoRow, standIns := [], harness := (true, "d7e8f476a4ba1cd5a8cdf4ad097856ec5f71fc1a1500496f8f370b09ed436e9c"), looks := false }, kinds := [], alts := [], laidByText := true, laidKinds := [.data, .data, .pinned], laidTests := true, laidLooks := .later }
def DeepNilUptoCardSaid : Prop := Claim7.holds Tryd.pinned (.plain (OpenSpec.upto deepNilSpec)) deepNilUptoCard

/-- THE SECOND FORM's CARD OF 'parleylaw23.SweepShares'. -/
def sweepSharesUptoCard : Claim7 := { stood := { row := sweepSharesUptoRow, standIns := [], harness := (true, "d7e8f476a4ba1cd5a8cdf4ad097856ec5f71fc1a1500496f8f370b09ed436e9c"), looks := false }, kinds := [], alts := [], laidByText := true, laidKinds := [.data, .data, .pinned], laidTests := true, laidLooks := .later }
def SweepSharesUptoCardSaid : Prop := Claim7.holds Tryd.pinned (.plain (OpenSpec.upto sweepSharesSpec)) sweepSharesUptoCard

/-- THE SECOND FORM's CARD OF 'parleylaw23.SweepReaches'. -/
def sweepReachesUptoCard : Claim7 := { stood := { row := sweepReachesUptoRow, standIns := [], harness := (true, "d7e8f476a4ba1cd5a8cdf4ad097856ec5f71fc1a1500496f8f370b09ed436e9c"), looks := false }, kinds := [], alts := [], laidByText := true, laidKinds := [.data, .data, .pinned], laidTests := true, laidLooks := .later }
def SweepReachesUptoCardSaid : Prop := Claim7.holds Tryd.pinned (.plain (OpenSpec.upto sweepReachesSpec)) sweepReachesUptoCard

/-- THE SECOND FORM's CARD OF 'parleylaw23.SweepNil'. -/
def sweepNilUptoCard : Claim7 := { stood := { row := sweepNilUptoRow, standIns := [], harness := (true, "d7e8f476a4ba1cd5a8cdf4ad097856ec5f71fc1a1500496f8f370b09ed436e9c"), looks := false }, kinds := [], alts := [], laidByText := true, laidKinds := [.data, .data, .pinned], laidTests := true, laidLooks := .later }
def SweepNilUptoCardSaid : Prop := Claim7.holds Tryd.pinned (.plain (OpenSpec.upto sweepNilSpec)) sweepNilUptoCard

/-- THE SECOND FORM's CARD OF 'parleylaw23.SweepCollects'. -/
def sweepCollectsUptoCard : Claim7 := { stood := { row := sweepCollectsUptoRow, standIns := [], harness := (true, "d7e8f476a4ba1cd5a8cdf4ad097856ec5f71fc1a1500496f8f370b09ed436e9c"), looks := false }, kinds := [], alts := [], laidByText := true, laidKinds := [.data, .data, .pinned], laidTests := true, laidLooks := .later }
def SweepCollectsUptoCardSaid : Prop := Claim7.holds Tryd.pinned (.plain (OpenSpec.upto sweepCollectsSpec)) sweepCollectsUptoCard

/-- THE SECOND FORM's CARD OF 'parleylaw23.SweepAgain'. -/
def sweepAgainUptoCard : Claim7 := { stood := { row := sweepAgainUptoRow, standIns := [], harness := (true, "d7e8f476a4ba1cd5a8cdf4ad097856ec5f71fc1a1500496f8f370b09ed436e9c"), looks := false }, kinds := [], alts := [], laidByText := true, laidKinds := [.data, .data, .pinned], laidTests := true, laidLooks := .later }
def SweepAgainUptoCardSaid : Prop := Claim7.holds Tryd.pinned (.plain (OpenSpec.upto sweepAgainSpec)) sweepAgainUptoCard
end Rows
end Go.Proofs.YthgnihckeckaiaaDoor
