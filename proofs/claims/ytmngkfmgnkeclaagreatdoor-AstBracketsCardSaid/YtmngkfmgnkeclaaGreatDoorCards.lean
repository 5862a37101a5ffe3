/-
  DERIVED. GIVEN WITH THE SEED: THE CARDS: each row of YtmngkfmgnkeclaaGreatDoorRows.lean that lists a variable, with what it lists TIED to the program's text (the seventh form; the later family's looks); each row that meets fmt, with fmt's text TOLD by the authors' own Lean function (tested against real Go, not proved from fmt's source: count such statements apart). THE CARD IS WHAT COUNTS. Prove the row's statement (the work); the ties are given (YtmngkfmgnkeclaaGreatDoorTie.lean); close each card by the builder's one call (the guide's Derived/Test/ToyasCard.lean, 'card_holds'). Laid BY PROGRAM, IN A SANDBOX (cutbox-door.mjs). By AI agents, Wed Nov 11 2026. No macro, syntax, notation, axiom, sorry.
-/
import Derived.Test.YtmngkfmgnkeclaaGreatDoorRows
import GoSem.ClaimSeven
namespace Go.Proofs.YtmngkfmgnkeclaaGreatDoor
namespace Rows

/-- THE TIED CARD OF 'rostrumlaw14.AstBrackets'. -/
def astBracketsCard : Claim7 := { stood := { row := astBracketsRow, standIns := [], harness := (true, "873f5ea2c9159913e4a439e130ee563a9ab4d5888e6c87b1e7e710af0f6ca59b"), looks := true }, kinds := [], alts := [], laidByText := true, laidKinds := [.data, .data, .data, .data, .sentinel, .sentinel, .listed, .data, .pinned], laidTests := true, laidLooks := .later }
def AstBracketsCardSaid : Prop := Claim7.holds Tryz.pinned (.plain (OpenSpec.ofChange astBracketsSpec)) astBracketsCard

/-- THE SECOND FORM's CARD OF 'rostrumlaw14.AstBrackets'. -/
def astBracketsUptoCard : Claim7 := { stood := { row := astBracketsUptoRow, standIns := [], harness := (true, "873f5ea2c9159913e4a439e130ee563a9ab4d5888e6c87b1e7e710af0f6ca59b"), looks := true }, kinds := [], alts := [], laidByText := true, laidKinds := [.data, .data, .data, .data, .sentinel, .sentinel, .listed, .data, .pinned], laidTests := true, laidLooks := .later }
def AstBracketsUptoCardSaid : Prop := Claim7.holds Tryz.pinned (.plain (OpenSpec.upto astBracketsSpec)) astBracketsUptoCard
end Rows
end Go.Proofs.YtmngkfmgnkeclaaGreatDoor
