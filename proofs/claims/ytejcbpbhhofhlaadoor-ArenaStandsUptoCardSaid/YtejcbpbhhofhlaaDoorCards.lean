/-
  DERIVED. GIVEN WITH THE SEED: THE CARDS: each row of YtejcbpbhhofhlaaDoorRows.lean that lists a variable, with what it lists TIED to the program's text (the seventh form; the later family's looks); each row that meets fmt, with fmt's text TOLD by the authors' own Lean function (tested against real Go, not proved from fmt's source: count such statements apart). THE CARD IS WHAT COUNTS. Prove the row's statement (the work); the ties are given (YtejcbpbhhofhlaaDoorTie.lean); close each card by the builder's one call (the guide's Derived/Test/ToyasCard.lean, 'card_holds'). Laid BY PROGRAM, IN A SANDBOX (cutbox-door.mjs). By AI agents, Wed Nov 11 2026. No macro, syntax, notation, axiom, sorry.
-/
import Derived.Test.YtejcbpbhhofhlaaDoorRows
import GoSem.ClaimSeven
namespace Go.Proofs.YtejcbpbhhofhlaaDoor
namespace Rows

/-- THE TIED CARD OF 'parleylaw03.ArenaBack'. -/
def arenaBackCard : Claim7 := { stood := { row := arenaBackRow, standIns := [], harness := (true, "df9ee70177724aabfbddfb9757f41521e2df8aff6df8ad7cde336e344efc4ead"), looks := false }, kinds := [], alts := [], laidByText := true, laidKinds := [.data, .data, .pinned], laidTests := true, laidLooks := .later }
def ArenaBackCardSaid : Prop := Claim7.holds Tryd.pinned (.plain (OpenSpec.ofChange arenaBackSpec)) arenaBackCard

/-- THE TIED CARD OF 'parleylaw03.ArenaShares'. -/
def arenaSharesCard : Claim7 := { stood := { row := arenaSharesRow, standIns := [], harness := (true, "df9ee70177724aabfbddfb9757f41521e2df8aff6df8ad7cde336e344efc4ead"), looks := false }, kinds := [], alts := [], laidByText := true, laidKinds := [.data, .data, .pinned], laidTests := true, laidLooks := .later }
def ArenaSharesCardSaid : Prop := Claim7.holds Tryd.pinned (.plain (OpenSpec.ofChange arenaSharesSpec)) arenaSharesCard

/-- THE TIED CARD OF 'parleylaw03.ArenaPlays'. -/
def arenaPlaysCard : Claim7 := { stood := { row := arenaPlaysRow, standIns := [], harness := (true, "df9ee70177724aabfbddfb9757f41521e2df8aff6df8ad7cde336e344efc4ead"), looks := false }, kinds := [], alts := [], laidByText := true, laidKinds := [.data, .data, .pinned], laidTests := true, laidLooks := .later }
def ArenaPlaysCardSaid : Prop := Claim7.holds Tryd.pinned (.plain (OpenSpec.ofChange arenaPlaysSpec)) arenaPlaysCard

/-- THE TIED CARD OF 'parleylaw03.ArenaStands'. -/
def arenaStandsCard : Claim7 := { stood := { row := arenaStandsRow, standIns := [], harness := (true, "df9ee70177724aabfbddfb9757f41521e2df8aff6df8ad7cde336e344efc4ead"), looks := false }, kinds := [], alts := [], laidByText := true, laidKinds := [.data, .data, .pinned], laidTests := true, laidLooks := .later }
def ArenaStandsCardSaid : Prop := Claim7.holds Tryd.pinned (.plain (OpenSpec.ofChange arenaStandsSpec)) arenaStandsCard

/-- THE TIED CARD OF 'parleylaw03.ArenaNil'. -/
def arenaNilCard : Claim7 := { stood := { row := arenaNilRow, standIns := [], harness := (true, "df9ee70177724aabfbddfb9757f41521e2df8aff6df8ad7cde336e344efc4ead"), looks := false }, kinds := [], alts := [], laidByText := true, laidKinds := [.data, .data, .pinned], laidTests := true, laidLooks := .later }
def ArenaNilCardSaid : Prop := Claim7.holds Tryd.pinned (.plain (OpenSpec.ofChange arenaNilSpec)) arenaNilCard

/-- THE SECOND FORM's CARD OF 'parleylaw03.ArenaBack'. -/
def arenaBackUptoCard : Claim7 := { stood := { row := arenaBackUptoRow, standIns := [], harness := (true, "df9ee70177724aabfbddfb9757f41521e2df8aff6df8ad7cde336e344efc4ead"), looks := false }, kinds := [], alts := [], laidByText := true, laidKinds := [.data, .data, .pinned], laidTests := true, laidLooks := .later }
def ArenaBackUptoCardSaid : Prop := Claim7.holds Tryd.pinned (.plain (OpenSpec.upto arenaBackSpec)) arenaBackUptoCard

/-- THE SECOND FORM's CARD OF 'parleylaw03.ArenaShares'. -/
def arenaSharesUptoCard : Claim7 := { stood := { row := arenaSharesUptoRow, standIns := [], harness := (true, "df9ee70177724aabfbddfb9757f41521e2df8aff6df8ad7cde336e344efc4ead"), looks := false }, kinds := [], alts := [], laidByText := true, laidKinds := [.data, .data, .pinned], laidTests := true, laidLooks := .later }
def ArenaSharesUptoCardSaid : Prop := Claim7.holds Tryd.pinned (.plain (OpenSpec.upto arenaSharesSpec)) arenaSharesUptoCard

/-- THE SECOND FORM's CARD OF 'parleylaw03.ArenaPlays'. -/
def arenaPlaysUptoCard : Claim7 := { stood := { row := arenaPlaysUptoRow, standIns := [], harness := (true, "df9ee70177724aabfbddfb9757f41521e2df8aff6df8ad7cde336e344efc4ead"), looks := false }, kinds := [], alts := [], laidByText := true, laidKinds := [.data, .data, .pinned], laidTests := true, laidLooks := .later }
def ArenaPlaysUptoCardSaid : Prop := Claim7.holds Tryd.pinned (.plain (OpenSpec.upto arenaPlaysSpec)) arenaPlaysUptoCard

/-- THE SECOND FORM's CARD OF 'parleylaw03.ArenaStands'. -/
def arenaStandsUptoCard : Claim7 := { stood := { row := arenaStandsUptoRow, standIns := [], harness := (true, "df9ee70177724aabfbddfb9757f41521e2df8aff6df8ad7cde336e344efc4ead"), looks := false }, kinds := [], alts := [], laidByText := true, laidKinds := [.data, .data, .pinned], laidTests := true, laidLooks := .later }
def ArenaStandsUptoCardSaid : Prop := Claim7.holds Tryd.pinned (.plain (OpenSpec.upto arenaStandsSpec)) arenaStandsUptoCard

/-- THE SECOND FORM's CARD OF 'parleylaw03.ArenaNil'. -/
def arenaNilUptoCard : Claim7 := { stood := { row := arenaNilUptoRow, standIns := [], harness := (true, "df9ee70177724aabfbddfb9757f41521e2df8aff6df8ad7cde336e344efc4ead"), looks := false }, kinds := [], alts := [], laidByText := true, laidKinds := [.data, .data, .pinned], laidTests := true, laidLooks := .later }
def ArenaNilUptoCardSaid : Prop := Claim7.holds Tryd.pinned (.plain (OpenSpec.upto arenaNilSpec)) arenaNilUptoCard
end Rows
end Go.Proofs.YtejcbpbhhofhlaaDoor
