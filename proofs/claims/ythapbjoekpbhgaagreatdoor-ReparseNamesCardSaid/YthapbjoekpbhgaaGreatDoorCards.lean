/-
  DERIVED. GIVEN WITH THE SEED: THE CARDS: each row of YthapbjoekpbhgaaGreatDoorRows.lean that lists a variable, with what it lists TIED to the program's text (the seventh form; the later family's looks); each row that meets fmt, with fmt's text TOLD by the authors' own Lean function (tested against real Go, not proved from fmt's source: count such statements apart). THE CARD IS WHAT COUNTS. Prove the row's statement (the work); the ties are given (YthapbjoekpbhgaaGreatDoorTie.lean); close each card by the builder's one call (the guide's Derived/Test/ToyasCard.lean, 'card_holds'). Laid BY PROGRAM, IN A SANDBOX (cutbox-door.mjs). By AI agents, Wed Nov 11 2026. No macro, syntax, notation, axiom, sorry.
-/
import Derived.Test.YthapbjoekpbhgaaGreatDoorRows
import GoSem.ClaimSeven
namespace Go.Proofs.YthapbjoekpbhgaaGreatDoor
namespace Rows

/-- THE TIED CARD OF 'rostrumlaw13.ReparseNames'. -/
def reparseNamesCard : Claim7 := { stood := { row := reparseNamesRow, standIns := [], harness := (true, "73d4d590936779c7d5aa2e01899b4617eeb20080c6458c212fe21a99eede3c17"), looks := true }, kinds := [], alts := [], laidByText := true, laidKinds := [.data, .data, .data, .data, .sentinel, .sentinel, .listed, .data, .pinned], laidTests := true, laidLooks := .later }
def ReparseNamesCardSaid : Prop := Claim7.holds Tryz.pinned (.plain (OpenSpec.ofChange reparseNamesSpec)) reparseNamesCard

/-- THE SECOND FORM's CARD OF 'rostrumlaw13.ReparseNames'. -/
def reparseNamesUptoCard : Claim7 := { stood := { row := reparseNamesUptoRow, standIns := [], harness := (true, "73d4d590936779c7d5aa2e01899b4617eeb20080c6458c212fe21a99eede3c17"), looks := true }, kinds := [], alts := [], laidByText := true, laidKinds := [.data, .data, .data, .data, .sentinel, .sentinel, .listed, .data, .pinned], laidTests := true, laidLooks := .later }
def ReparseNamesUptoCardSaid : Prop := Claim7.holds Tryz.pinned (.plain (OpenSpec.upto reparseNamesSpec)) reparseNamesUptoCard
end Rows
end Go.Proofs.YthapbjoekpbhgaaGreatDoor
