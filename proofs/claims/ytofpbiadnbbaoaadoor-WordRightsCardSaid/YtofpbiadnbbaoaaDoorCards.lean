/-
  DERIVED. GIVEN WITH THE SEED: THE CARDS: each row of YtofpbiadnbbaoaaDoorRows.lean that lists a variable, with what it lists TIED to the program's text (the seventh form; the later family's looks); each row that meets fmt, with fmt's text TOLD by the authors' own Lean function (tested against real Go, not proved from fmt's source: count such statements apart). THE CARD IS WHAT COUNTS. Prove the row's statement (the work); the ties are given (YtofpbiadnbbaoaaDoorTie.lean); close each card by the builder's one call (the guide's Derived/Test/ToyasCard.lean, 'card_holds'). Laid BY PROGRAM, IN A SANDBOX (cutbox-door.mjs). By AI agents, Wed Nov 11 2026. No macro, syntax, notation, axiom, sorry.
-/
import Derived.Test.YtofpbiadnbbaoaaDoorRows
import GoSem.ClaimSeven
namespace Go.Proofs.YtofpbiadnbbaoaaDoor
namespace Rows

/-- THE TIED CARD OF 'parleylaw01.WordEnds'. -/
def wordEndsCard : Claim7 := { stood := { row := wordEndsRow, standIns := [], harness := (true, "d125be9e503cce5198101e24749788e4b58eaaf5692873b3ab9272fac3a543c5"), looks := false }, kinds := [], alts := [], laidByText := true, laidKinds := [.data, .pinned], laidTests := true, laidLooks := .later }
def WordEndsCardSaid : Prop := Claim7.holds Tryd.pinned (.plain (OpenSpec.ofChange wordEndsSpec)) wordEndsCard

/-- THE TIED CARD OF 'parleylaw01.WordRights'. -/
def wordRightsCard : Claim7 := { stood := { row := wordRightsRow, standIns := [], harness := (true, "d125be9e503cce5198101e24749788e4b58eaaf5692873b3ab9272fac3a543c5"), looks := false }, kinds := [], alts := [], laidByText := true, laidKinds := [.data, .pinned], laidTests := true, laidLooks := .later }
def WordRightsCardSaid : Prop := Claim7.holds Tryd.pinned (.plain (OpenSpec.ofChange wordRightsSpec)) wordRightsCard

/-- THE SECOND FORM's CARD OF 'parleylaw01.WordEnds'. -/
def wordEndsUptoCard : Claim7 := { stood := { row := wordEndsUptoRow, standIns := [], harness := (true, "d125be9e503cce5198101e24749788e4b58eaaf5692873b3ab9272fac3a543c5"), looks := false }, kinds := [], alts := [], laidByText := true, laidKinds := [.data, .pinned], laidTests := true, laidLooks := .later }
def WordEndsUptoCardSaid : Prop := Claim7.holds Tryd.pinned (.plain (OpenSpec.upto wordEndsSpec)) wordEndsUptoCard

/-- THE SECOND FORM's CARD OF 'parleylaw01.WordRights'. -/
def wordRightsUptoCard : Claim7 := { stood := { row := wordRightsUptoRow, standIns := [], harness := (true, "d125be9e503cce5198101e24749788e4b58eaaf5692873b3ab9272fac3a543c5"), looks := false }, kinds := [], alts := [], laidByText := true, laidKinds := [.data, .pinned], laidTests := true, laidLooks := .later }
def WordRightsUptoCardSaid : Prop := Claim7.holds Tryd.pinned (.plain (OpenSpec.upto wordRightsSpec)) wordRightsUptoCard
end Rows
end Go.Proofs.YtofpbiadnbbaoaaDoor
