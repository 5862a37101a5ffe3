/-
  DERIVED. GIVEN WITH THE SEED: THE CARDS: each row of YtgecmbapkplklaaGreatDoorRows.lean that lists a variable, with what it lists TIED to the program's text (the seventh form; the later family's looks); each row that meets fmt, with fmt's text TOLD by the authors' own Lean function (tested against real Go, not proved from fmt's source: count such statements apart). THE CARD IS WHAT COUNTS. Prove the row's statement (the work); the ties are given (YtgecmbapkplklaaGreatDoorTie.lean); close each card by the builder's one call (the guide's Derived/Test/ToyasCard.lean, 'card_holds'). Laid BY PROGRAM, IN A SANDBOX (cutbox-door.mjs). By AI agents, Wed Nov 11 2026. No macro, syntax, notation, axiom, sorry.
-/
import Derived.Test.YtgecmbapkplklaaGreatDoorRows
import GoSem.ClaimSeven
namespace Go.Proofs.YtgecmbapkplklaaGreatDoor
namespace Rows

/-- THE TIED CARD OF 'rostrumlaw14.AstBlanks'. -/
def astBlanksCard : Claim7 := { stood := { row := astBlanksRow, standIns := [], harness := (true, "447b807a1238401fb4ad3e166aebcd23dbbf406225a49f6c2629b964adb5a6ef"), looks := true }, kinds := [], alts := [], laidByText := true, laidKinds := [.data, .data, .data, .data, .sentinel, .sentinel, .listed, .data, .pinned], laidTests := true, laidLooks := .later }
def AstBlanksCardSaid : Prop := Claim7.holds Tryz.pinned (.plain (OpenSpec.ofChange astBlanksSpec)) astBlanksCard

/-- THE SECOND FORM's CARD OF 'rostrumlaw14.AstBlanks'. -/
def astBlanksUptoCard : Claim7 := { stood := { row := astBlanksUptoRow, standIns := [], harness := (true, "447b807a1238401fb4ad3e166aebcd23dbbf406225a49f6c2629b964adb5a6ef"), looks := true }, kinds := [], alts := [], laidByText := true, laidKinds := [.data, .data, .data, .data, .sentinel, .sentinel, .listed, .data, .pinned], laidTests := true, laidLooks := .later }
def AstBlanksUptoCardSaid : Prop := Claim7.holds Tryz.pinned (.plain (OpenSpec.upto astBlanksSpec)) astBlanksUptoCard
end Rows
end Go.Proofs.YtgecmbapkplklaaGreatDoor
