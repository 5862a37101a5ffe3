/-
  DERIVED. GIVEN WITH THE SEED: THE CARDS: each row of YtjagieigmleneaiGreatDoorRows.lean that lists a variable, with what it lists TIED to the program's text (the seventh form; the later family's looks); each row that meets fmt, with fmt's text TOLD by the authors' own Lean function (tested against real Go, not proved from fmt's source: count such statements apart). THE CARD IS WHAT COUNTS. Prove the row's statement (the work); the ties are given (YtjagieigmleneaiGreatDoorTie.lean); close each card by the builder's one call (the guide's Derived/Test/ToyasCard.lean, 'card_holds'). Laid BY PROGRAM, IN A SANDBOX (cutbox-door.mjs). By AI agents, Wed Nov 11 2026. No macro, syntax, notation, axiom, sorry.
-/
import Derived.Test.YtjagieigmleneaiGreatDoorRows
import GoSem.ClaimSeven
namespace Go.Proofs.YtjagieigmleneaiGreatDoor
namespace Rows

/-- THE TIED CARD OF 'rostrumlaw14.AstNames'. -/
def astNamesCard : Claim7 := { stood := { row := astNamesRow, standIns := [], harness := (true, "7731b4f38ddd51e634e4bcabd4da671d051e5fe4bc4fa9c1f5c874d959cce660"), looks := true }, kinds := [], alts := [], laidByText := true, laidKinds := [.data, .data, .data, .data, .sentinel, .sentinel, .listed, .data, .pinned], laidTests := true, laidLooks := .later }
def AstNamesCardSaid : Prop := Claim7.holds Tryz.pinned (.plain (OpenSpec.ofChange astNamesSpec)) astNamesCard

/-- THE SECOND FORM's CARD OF 'rostrumlaw14.AstNames'. -/
def astNamesUptoCard : Claim7 := { stood := { row := astNamesUptoRow, standIns := [], harness := (true, "7731b4f38ddd51e634e4bcabd4da671d051e5fe4bc4fa9c1f5c874d959cce660"), looks := true }, kinds := [], alts := [], laidByText := true, laidKinds := [.data, .data, .data, .data, .sentinel, .sentinel, .listed, .data, .pinned], laidTests := true, laidLooks := .later }
def AstNamesUptoCardSaid : Prop := Claim7.holds Tryz.pinned (.plain (OpenSpec.upto astNamesSpec)) astNamesUptoCard
end Rows
end Go.Proofs.YtjagieigmleneaiGreatDoor
