/-
  DERIVED. GIVEN WITH THE SEED: THE CARDS: each row of YtmhofncehlaamaaGreatDoorRows.lean that lists a variable, with what it lists TIED to the program's text (the seventh form; the later family's looks); each row that meets fmt, with fmt's text TOLD by the authors' own Lean function (tested against real Go, not proved from fmt's source: count such statements apart). THE CARD IS WHAT COUNTS. Prove the row's statement (the work); the ties are given (YtmhofncehlaamaaGreatDoorTie.lean); close each card by the builder's one call (the guide's Derived/Test/ToyasCard.lean, 'card_holds'). Laid BY PROGRAM, IN A SANDBOX (cutbox-door.mjs). By AI agents, Wed Nov 11 2026. No macro, syntax, notation, axiom, sorry.
-/
import Derived.Test.YtmhofncehlaamaaGreatDoorRows
import GoSem.ClaimSeven
namespace Go.Proofs.YtmhofncehlaamaaGreatDoor
namespace Rows

/-- THE TIED CARD OF 'rostrumlaw14.AstBlanks'. -/
def astBlanksCard : Claim7 := { stood := { row := astBlanksRow, standIns := [], harness := (true, "e0d0e940e8e4f22e3a274faed6ffa49b5185774412060c683514643232a475cc"), looks := true }, kinds := [], alts := [], laidByText := true, laidKinds := [.data, .data, .data, .data, .sentinel, .sentinel, .listed, .data, .pinned], laidTests := true, laidLooks := .later }
def AstBlanksCardSaid : Prop := Claim7.holds Tryz.pinned (.plain (OpenSpec.ofChange astBlanksSpec)) astBlanksCard

/-- THE TIED CARD OF 'rostrumlaw20.FormatTwice'. -/
def formatTwiceCard : Claim7 := { stood := { row := formatTwiceRow, standIns := [], harness := (true, "e0d0e940e8e4f22e3a274faed6ffa49b5185774412060c683514643232a475cc"), looks := true }, kinds := [], alts := [], laidByText := true, laidKinds := [.data, .data, .data, .data, .sentinel, .sentinel, .listed, .data, .pinned], laidTests := true, laidLooks := .later }
def FormatTwiceCardSaid : Prop := Claim7.holds Tryz.pinned (.plain (OpenSpec.ofChange formatTwiceSpec)) formatTwiceCard

/-- THE TIED CARD OF 'rostrumlaw20.FormatBlanks'. -/
def formatBlanksCard : Claim7 := { stood := { row := formatBlanksRow, standIns := [], harness := (true, "e0d0e940e8e4f22e3a274faed6ffa49b5185774412060c683514643232a475cc"), looks := true }, kinds := [], alts := [], laidByText := true, laidKinds := [.data, .data, .data, .data, .sentinel, .sentinel, .listed, .data, .pinned], laidTests := true, laidLooks := .later }
def FormatBlanksCardSaid : Prop := Claim7.holds Tryz.pinned (.plain (OpenSpec.ofChange formatBlanksSpec)) formatBlanksCard

/-- THE TIED CARD OF 'rostrumlaw20.FormatTokens'. -/
def formatTokensCard : Claim7 := { stood := { row := formatTokensRow, standIns := [], harness := (true, "e0d0e940e8e4f22e3a274faed6ffa49b5185774412060c683514643232a475cc"), looks := true }, kinds := [], alts := [], laidByText := true, laidKinds := [.data, .data, .data, .data, .sentinel, .sentinel, .listed, .data, .pinned], laidTests := true, laidLooks := .later }
def FormatTokensCardSaid : Prop := Claim7.holds Tryz.pinned (.plain (OpenSpec.ofChange formatTokensSpec)) formatTokensCard

/-- THE SECOND FORM's CARD OF 'rostrumlaw14.AstBlanks'. -/
def astBlanksUptoCard : Claim7 := { stood := { row := astBlanksUptoRow, standIns := [], harness := (true, "e0d0e940e8e4f22e3a274faed6ffa49b5185774412060c683514643232a475cc"), looks := true }, kinds := [], alts := [], laidByText := true, laidKinds := [.data, .data, .data, .data, .sentinel, .sentinel, .listed, .data, .pinned], laidTests := true, laidLooks := .later }
def AstBlanksUptoCardSaid : Prop := Claim7.holds Tryz.pinned (.plain (OpenSpec.upto astBlanksSpec)) astBlanksUptoCard

/-- THE SECOND FORM's CARD OF 'rostrumlaw20.FormatTwice'. -/
def formatTwiceUptoCard : Claim7 := { stood := { row := formatTwiceUptoRow, standIns := [], harness := (true, "e0d0e940e8e4f22e3a274faed6ffa49b5185774412060c683514643232a475cc"), looks := true }, kinds := [], alts := [], laidByText := true, laidKinds := [.data, .data, .data, .data, .sentinel, .sentinel, .listed, .data, .pinned], laidTests := true, laidLooks := .later }
def FormatTwiceUptoCardSaid : Prop := Claim7.holds Tryz.pinned (.plain (OpenSpec.upto formatTwiceSpec)) formatTwiceUptoCard

/-- THE SECOND FORM's CARD OF 'rostrumlaw20.FormatBlanks'. -/
def formatBlanksUptoCard : Claim7 := { stood := { row := formatBlanksUptoRow, standIns := [], harness := (true, "e0d0e940e8e4f22e3a274faed6ffa49b5185774412060c683514643232a475cc"), looks := true }, kinds := [], alts := [], laidByText := true, laidKinds := [.data, .data, .data, .data, .sentinel, .sentinel, .listed, .data, .pinned], laidTests := true, laidLooks := .later }
def FormatBlanksUptoCardSaid : Prop := Claim7.holds Tryz.pinned (.plain (OpenSpec.upto formatBlanksSpec)) formatBlanksUptoCard

/-- THE SECOND FORM's CARD OF 'rostrumlaw20.FormatTokens'. -/
def formatTokensUptoCard : Claim7 := { stood := { row := formatTokensUptoRow, standIns := [], harness := (true, "e0d0e940e8e4f22e3a274faed6ffa49b5185774412060c683514643232a475cc"), looks := true }, kinds := [], alts := [], laidByText := true, laidKinds := [.data, .data, .data, .data, .sentinel, .sentinel, .listed, .data, .pinned], laidTests := true, laidLooks := .later }
def FormatTokensUptoCardSaid : Prop := Claim7.holds Tryz.pinned (.plain (OpenSpec.upto formatTokensSpec)) formatTokensUptoCard
end Rows
end Go.Proofs.YtmhofncehlaamaaGreatDoor
