/-
  DERIVED. GIVEN WITH THE SEED: THE CARDS: each row of YtggblfnajeikjaaGreatDoorRows.lean that lists a variable, with what it lists TIED to the program's text (the seventh form; the later family's looks); each row that meets fmt, with fmt's text TOLD by the authors' own Lean function (tested against real Go, not proved from fmt's source: count such statements apart). THE CARD IS WHAT COUNTS. Prove the row's statement (the work); the ties are given (YtggblfnajeikjaaGreatDoorTie.lean); close each card by the builder's one call (the guide's Derived/Test/ToyasCard.lean, 'card_holds'). Laid BY PROGRAM, IN A SANDBOX (cutbox-door.mjs). By AI agents, Wed Nov 11 2026. No macro, syntax, notation, axiom, sorry.
-/
import Derived.Test.YtggblfnajeikjaaGreatDoorRows
import GoSem.ClaimSeven
namespace Go.Proofs.YtggblfnajeikjaaGreatDoor
namespace Rows

/-- THE TIED CARD OF 'laws.FnReports'. -/
def fnReportsCard : Claim7 := { stood := { row := fnReportsRow, standIns := [], harness := (true, "ed68a2a74b95b53bcb555de7ad0e5c6c24ccb58e45523898a7f7ca9781ab4b30"), looks := true }, kinds := [], alts := [], laidByText := true, laidKinds := [.data, .data, .data, .data, .sentinel, .sentinel, .pinned], laidTests := true, laidLooks := .later }
def FnReportsCardSaid : Prop := Claim7.holds Tryz.pinned (.plain (OpenSpec.ofChange fnReportsSpec)) fnReportsCard

/-- THE TIED CARD OF 'laws.FnConsole'. -/
def fnConsoleCard : Claim7 := { stood := { row := fnConsoleRow, standIns := [], harness := (true, "ed68a2a74b95b53bcb555de7ad0e5c6c24ccb58e45523898a7f7ca9781ab4b30"), looks := true }, kinds := [], alts := [], laidByText := true, laidKinds := [.data, .data, .data, .data, .sentinel, .sentinel, .pinned], laidTests := true, laidLooks := .later }
def FnConsoleCardSaid : Prop := Claim7.holds Tryz.pinned (.plain (OpenSpec.ofChange fnConsoleSpec)) fnConsoleCard

/-- THE SECOND FORM's CARD OF 'laws.FnReports'. -/
def fnReportsUptoCard : Claim7 := { stood := { row := fnReportsUptoRow, standIns := [], harness := (true, "ed68a2a74b95b53bcb555de7ad0e5c6c24ccb58e45523898a7f7ca9781ab4b30"), looks := true }, kinds := [], alts := [], laidByText := true, laidKinds := [.data, .data, .data, .data, .sentinel, .sentinel, .pinned], laidTests := true, laidLooks := .later }
def FnReportsUptoCardSaid : Prop := Claim7.holds Tryz.pinned (.plain (OpenSpec.upto fnReportsSpec)) fnReportsUptoCard

/-- THE SECOND FORM's CARD OF 'laws.FnConsole'. -/
def fnConsoleUptoCard : Claim7 := { stood := { row := fnConsoleUptoRow, standIns := [], harness := (true, "ed68a2a74b95b53bcb555de7ad0e5c6c24ccb58e45523898a7f7ca9781ab4b30"), looks := true }, kinds := [], alts := [], laidByText := true, laidKinds := [.data, .data, .data, .data, .sentinel, .sentinel, .pinned], laidTests := true, laidLooks := .later }
def FnConsoleUptoCardSaid : Prop := Claim7.holds Tryz.pinned (.plain (OpenSpec.upto fnConsoleSpec)) fnConsoleUptoCard
end Rows
end Go.Proofs.YtggblfnajeikjaaGreatDoor
