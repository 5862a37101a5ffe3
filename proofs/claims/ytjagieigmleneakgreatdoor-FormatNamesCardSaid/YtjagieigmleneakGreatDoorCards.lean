/-
  DERIVED. GIVEN WITH THE SEED: THE CARDS: each row of YtjagieigmleneakGreatDoorRows.lean that lists a variable, with what it lists TIED to the program's text (the seventh form; the later family's looks); each row that meets fmt, with fmt's text TOLD by the authors' own Lean function (tested against real Go, not proved from fmt's source: count such statements apart). THE CARD IS WHAT COUNTS. Prove the row's statement (the work); the ties are given (YtjagieigmleneakGreatDoorTie.lean); close each card by the builder's one call (the guide's Derived/Test/ToyasCard.lean, 'card_holds'). Laid BY PROGRAM, IN A SANDBOX (cutbox-door.mjs). By AI agents, Wed Nov 11 2026. No macro, syntax, notation, axiom, sorry.
-/
import Derived.Test.YtjagieigmleneakGreatDoorRows
import GoSem.ClaimSeven
namespace Go.Proofs.YtjagieigmleneakGreatDoor
namespace Rows

/-- THE TIED CARD OF 'rostrumlaw20.FormatNames'. -/
def formatNamesCard : Claim7 := { stood := { row := formatNamesRow, standIns := [], harness := (true, "558909633d014339eba1a840a8be88cdc15ba63b2c29fe900de81641d203578c"), looks := true }, kinds := [], alts := [], laidByText := true, laidKinds := [.data, .data, .data, .data, .sentinel, .sentinel, .listed, .data, .pinned], laidTests := true, laidLooks := .later }
def FormatNamesCardSaid : Prop := Claim7.holds Tryz.pinned (.plain (OpenSpec.ofChange formatNamesSpec)) formatNamesCard

/-- THE SECOND FORM's CARD OF 'rostrumlaw20.FormatNames'. -/
def formatNamesUptoCard : Claim7 := { stood := { row := formatNamesUptoRow, standIns := [], harness := (true, "558909633d014339eba1a840a8be88cdc15ba63b2c29fe900de81641d203578c"), looks := true }, kinds := [], alts := [], laidByText := true, laidKinds := [.data, .data, .data, .data, .sentinel, .sentinel, .listed, .data, .pinned], laidTests := true, laidLooks := .later }
def FormatNamesUptoCardSaid : Prop := Claim7.holds Tryz.pinned (.plain (OpenSpec.upto formatNamesSpec)) formatNamesUptoCard
end Rows
end Go.Proofs.YtjagieigmleneakGreatDoor
