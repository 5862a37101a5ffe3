/-
  DERIVED. GIVEN WITH THE SEED: THE CARDS: each row of YtmnpladggilgbaaGreatDoorRows.lean that lists a variable, with what it lists TIED to the program's text (the seventh form; the later family's looks); each row that meets fmt, with fmt's text TOLD by the authors' own Lean function (tested against real Go, not proved from fmt's source: count such statements apart). THE CARD IS WHAT COUNTS. Prove the row's statement (the work); the ties are given (YtmnpladggilgbaaGreatDoorTie.lean); close each card by the builder's one call (the guide's Derived/Test/ToyasCard.lean, 'card_holds'). Laid BY PROGRAM, IN A SANDBOX (cutbox-door.mjs). By AI agents, Wed Nov 11 2026. No macro, syntax, notation, axiom, sorry.
-/
import Derived.Test.YtmnpladggilgbaaGreatDoorRows
import GoSem.ClaimSeven
namespace Go.Proofs.YtmnpladggilgbaaGreatDoor
namespace Rows

/-- THE TIED CARD OF 'rostrumlaw14.AstSame'. -/
def astSameCard : Claim7 := { stood := { row := astSameRow, standIns := [], harness := (true, "9b4a9dee168572769f687877be1b2d4950e1f48b6e7a45d946e5db1f5c115e5e"), looks := true }, kinds := [], alts := [], laidByText := true, laidKinds := [.data, .data, .data, .data, .sentinel, .sentinel, .listed, .data, .pinned], laidTests := true, laidLooks := .later }
def AstSameCardSaid : Prop := Claim7.holds Tryz.pinned (.plain (OpenSpec.ofChange astSameSpec)) astSameCard

/-- THE SECOND FORM's CARD OF 'rostrumlaw14.AstSame'. -/
def astSameUptoCard : Claim7 := { stood := { row := astSameUptoRow, standIns := [], harness := (true, "9b4a9dee168572769f687877be1b2d4950e1f48b6e7a45d946e5db1f5c115e5e"), looks := true }, kinds := [], alts := [], laidByText := true, laidKinds := [.data, .data, .data, .data, .sentinel, .sentinel, .listed, .data, .pinned], laidTests := true, laidLooks := .later }
def AstSameUptoCardSaid : Prop := Claim7.holds Tryz.pinned (.plain (OpenSpec.upto astSameSpec)) astSameUptoCard
end Rows
end Go.Proofs.YtmnpladggilgbaaGreatDoor
