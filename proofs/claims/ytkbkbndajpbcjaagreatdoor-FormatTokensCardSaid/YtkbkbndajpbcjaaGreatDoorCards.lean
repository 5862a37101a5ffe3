/-
  DERIVED. GIVEN WITH THE SEED: THE CARDS: each row of YtkbkbndajpbcjaaGreatDoorRows.lean that lists a variable, with what it lists TIED to the program's text (the seventh form; the later family's looks); each row that meets fmt, with fmt's text TOLD by the authors' own Lean function (tested against real Go, not proved from fmt's source: count such statements apart). THE CARD IS WHAT COUNTS. Prove the row's statement (the work); the ties are given (YtkbkbndajpbcjaaGreatDoorTie.lean); close each card by the builder's one call (the guide's Derived/Test/ToyasCard.lean, 'card_holds'). Laid BY PROGRAM, IN A SANDBOX (cutbox-door.mjs). By AI agents, Wed Nov 11 2026. No macro, syntax, notation, axiom, sorry.
-/
import Derived.Test.YtkbkbndajpbcjaaGreatDoorRows
import GoSem.ClaimSeven
namespace Go.Proofs.YtkbkbndajpbcjaaGreatDoor
namespace Rows

/-- THE TIED CARD OF 'rostrumlaw20.FormatTokens'. -/
def formatTokensCard : Claim7 := { stood := { row := formatTokensRow, standIns := [], harness := (true, "13d5c2d36f1718971a790e3dc3b785c52e7825b336c600b0c48b5ec4818c3347"), looks := true }, kinds := [], alts := [], laidByText := true, laidKinds := [.data, .data, .data, .data, .sentinel, .sentinel, .listed, .data, .pinned], laidTests := true, laidLooks := .later }
def FormatTokensCardSaid : Prop := Claim7.holds Tryz.pinned (.plain (OpenSpec.ofChange formatTokensSpec)) formatTokensCard

/-- THE SECOND FORM's CARD OF 'rostrumlaw20.FormatTokens'. -/
def formatTokensUptoCard : Claim7 := { stood := { row := formatTokensUptoRow, standIns := [], harness := (true, "13d5c2d36f1718971a790e3dc3b785c52e7825b336c600b0c48b5ec4818c3347"), looks := true }, kinds := [], alts := [], laidByText := true, laidKinds := [.data, .data, .data, .data, .sentinel, .sentinel, .listed, .data, .pinned], laidTests := true, laidLooks := .later }
def FormatTokensUptoCardSaid : Prop := Claim7.holds Tryz.pinned (.plain (OpenSpec.upto formatTokensSpec)) formatTokensUptoCard
end Rows
end Go.Proofs.YtkbkbndajpbcjaaGreatDoor
