/-
  DERIVED. GIVEN WITH THE SEED: THE CARDS: each row of YtkpeicabocpbkaaGreatDoorRows.lean that lists a variable, with what it lists TIED to the program's text (the seventh form; the later family's looks); each row that meets fmt, with fmt's text TOLD by the authors' own Lean function (tested against real Go, not proved from fmt's source: count such statements apart). THE CARD IS WHAT COUNTS. Prove the row's statement (the work); the ties are given (YtkpeicabocpbkaaGreatDoorTie.lean); close each card by the builder's one call (the guide's Derived/Test/ToyasCard.lean, 'card_holds'). Laid BY PROGRAM, IN A SANDBOX (cutbox-door.mjs). By AI agents, Wed Nov 11 2026. No macro, syntax, notation, axiom, sorry.
-/
import Derived.Test.YtkpeicabocpbkaaGreatDoorRows
import GoSem.ClaimSeven
namespace Go.Proofs.YtkpeicabocpbkaaGreatDoor
namespace Rows

/-- THE TIED CARD OF 'rostrumlaw20.FormatBlanks'. -/
def formatBlanksCard : Claim7 := { stood := { row := formatBlanksRow, standIns := [], harness := (true, "5df5c7d8e406aff012f46e17df2c2bdf8630f9d22a3080ee883fdfbfb309ca86"), looks := true }, kinds := [], alts := [], laidByText := true, laidKinds := [.data, .data, .data, .data, .sentinel, .sentinel, .listed, .data, .pinned], laidTests := true, laidLooks := .later }
def FormatBlanksCardSaid : Prop := Claim7.holds Tryz.pinned (.plain (OpenSpec.ofChange formatBlanksSpec)) formatBlanksCard

/-- THE SECOND FORM's CARD OF 'rostrumlaw20.FormatBlanks'. -/
def formatBlanksUptoCard : Claim7 := { stood := { row := formatBlanksUptoRow, standIns := [], harness := (true, "5df5c7d8e406aff012f46e17df2c2bdf8630f9d22a3080ee883fdfbfb309ca86"), looks := true }, kinds := [], alts := [], laidByText := true, laidKinds := [.data, .data, .data, .data, .sentinel, .sentinel, .listed, .data, .pinned], laidTests := true, laidLooks := .later }
def FormatBlanksUptoCardSaid : Prop := Claim7.holds Tryz.pinned (.plain (OpenSpec.upto formatBlanksSpec)) formatBlanksUptoCard
end Rows
end Go.Proofs.YtkpeicabocpbkaaGreatDoor
