/-
  DERIVED. GIVEN WITH THE SEED: THE CARDS: each row of YtcghfoagjphaoaaGreatDoorRows.lean that lists a variable, with what it lists TIED to the program's text (the seventh form; the later family's looks); each row that meets fmt, with fmt's text TOLD by the authors' own Lean function (tested against real Go, not proved from fmt's source: count such statements apart). THE CARD IS WHAT COUNTS. Prove the row's statement (the work); the ties are given (YtcghfoagjphaoaaGreatDoorTie.lean); close each card by the builder's one call (the guide's Derived/Test/ToyasCard.lean, 'card_holds'). Laid BY PROGRAM, IN A SANDBOX (cutbox-door.mjs). By AI agents, Wed Nov 11 2026. No macro, syntax, notation, axiom, sorry.
-/
import Derived.Test.YtcghfoagjphaoaaGreatDoorRows
import GoSem.ClaimSeven
namespace Go.Proofs.YtcghfoagjphaoaaGreatDoor
namespace Rows

/-- THE TIED CARD OF 'rostrumlaw10.RelexEdits'. -/
def relexEditsCard : Claim7 := { stood := { row := relexEditsRow, standIns := [], harness := (true, "fa623ec78ad21aa29c3d61f57d6784565a849123742defb27e40825f77e3ea9f"), looks := true }, kinds := [], alts := [], laidByText := true, laidKinds := [.data, .data, .data, .data, .sentinel, .sentinel, .listed, .data, .pinned], laidTests := true, laidLooks := .later }
def RelexEditsCardSaid : Prop := Claim7.holds Tryz.pinned (.plain (OpenSpec.ofChange relexEditsSpec)) relexEditsCard

/-- THE SECOND FORM's CARD OF 'rostrumlaw10.RelexEdits'. -/
def relexEditsUptoCard : Claim7 := { stood := { row := relexEditsUptoRow, standIns := [], harness := (true, "fa623ec78ad21aa29c3d61f57d6784565a849123742defb27e40825f77e3ea9f"), looks := true }, kinds := [], alts := [], laidByText := true, laidKinds := [.data, .data, .data, .data, .sentinel, .sentinel, .listed, .data, .pinned], laidTests := true, laidLooks := .later }
def RelexEditsUptoCardSaid : Prop := Claim7.holds Tryz.pinned (.plain (OpenSpec.upto relexEditsSpec)) relexEditsUptoCard
end Rows
end Go.Proofs.YtcghfoagjphaoaaGreatDoor
