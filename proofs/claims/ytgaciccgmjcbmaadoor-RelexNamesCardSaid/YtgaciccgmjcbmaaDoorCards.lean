/-
  DERIVED. GIVEN WITH THE SEED: THE CARDS: each row of YtgaciccgmjcbmaaDoorRows.lean that lists a variable, with what it lists TIED to the program's text (the seventh form; the later family's looks); each row that meets fmt, with fmt's text TOLD by the authors' own Lean function (tested against real Go, not proved from fmt's source: count such statements apart). THE CARD IS WHAT COUNTS. Prove the row's statement (the work); the ties are given (YtgaciccgmjcbmaaDoorTie.lean); close each card by the builder's one call (the guide's Derived/Test/ToyasCard.lean, 'card_holds'). Laid BY PROGRAM, IN A SANDBOX (cutbox-door.mjs). By AI agents, Wed Nov 11 2026. No macro, syntax, notation, axiom, sorry.
-/
import Derived.Test.YtgaciccgmjcbmaaDoorRows
import GoSem.ClaimSeven
namespace Go.Proofs.YtgaciccgmjcbmaaDoor
namespace Rows

/-- THE TIED CARD OF 'rostrumlaw10.RelexKeeps'. -/
def relexKeepsCard : Claim7 := { stood := { row := relexKeepsRow, standIns := [], harness := (true, "1dabde1907b1a015ff16279a5a5371e9e795ac9f376963dad6f61f7fb96c06e9"), looks := true }, kinds := [], alts := [], laidByText := true, laidKinds := [.data, .data, .data, .data, .sentinel, .sentinel, .listed, .data, .pinned], laidTests := true, laidLooks := .later }
def RelexKeepsCardSaid : Prop := Claim7.holds Tryd.pinned (.plain (OpenSpec.ofChange relexKeepsSpec)) relexKeepsCard

/-- THE TIED CARD OF 'rostrumlaw10.RelexAnew'. -/
def relexAnewCard : Claim7 := { stood := { row := relexAnewRow, standIns := [], harness := (true, "1dabde1907b1a015ff16279a5a5371e9e795ac9f376963dad6f61f7fb96c06e9"), looks := true }, kinds := [], alts := [], laidByText := true, laidKinds := [.data, .data, .data, .data, .sentinel, .sentinel, .listed, .data, .pinned], laidTests := true, laidLooks := .later }
def RelexAnewCardSaid : Prop := Claim7.holds Tryd.pinned (.plain (OpenSpec.ofChange relexAnewSpec)) relexAnewCard

/-- THE TIED CARD OF 'rostrumlaw10.RelexRows'. -/
def relexRowsCard : Claim7 := { stood := { row := relexRowsRow, standIns := [], harness := (true, "1dabde1907b1a015ff16279a5a5371e9e795ac9f376963dad6f61f7fb96c06e9"), looks := true }, kinds := [], alts := [], laidByText := true, laidKinds := [.data, .data, .data, .data, .sentinel, .sentinel, .listed, .data, .pinned], laidTests := true, laidLooks := .later }
def RelexRowsCardSaid : Prop := Claim7.holds Tryd.pinned (.plain (OpenSpec.ofChange relexRowsSpec)) relexRowsCard

/-- THE TIED CARD OF 'rostrumlaw10.RelexNames'. -/
def relexNamesCard : Claim7 := { stood := { row := relexNamesRow, standIns := [], harness := (true, "1dabde1907b1a015ff16279a5a5371e9e795ac9f376963dad6f61f7fb96c06e9"), looks := true }, kinds := [], alts := [], laidByText := true, laidKinds := [.data, .data, .data, .data, .sentinel, .sentinel, .listed, .data, .pinned], laidTests := true, laidLooks := .later }
def RelexNamesCardSaid : Prop := Claim7.holds Tryd.pinned (.plain (OpenSpec.ofChange relexNamesSpec)) relexNamesCard

/-- THE TIED CARD OF 'rostrumlaw10.RelexBack'. -/
def relexBackCard : Claim7 := { stood := { row := relexBackRow, standIns := [], harness := (true, "1dabde1907b1a015ff16279a5a5371e9e795ac9f376963dad6f61f7fb96c06e9"), looks := true }, kinds := [], alts := [], laidByText := true, laidKinds := [.data, .data, .data, .data, .sentinel, .sentinel, .listed, .data, .pinned], laidTests := true, laidLooks := .later }
def RelexBackCardSaid : Prop := Claim7.holds Tryd.pinned (.plain (OpenSpec.ofChange relexBackSpec)) relexBackCard

/-- THE SECOND FORM's CARD OF 'rostrumlaw10.RelexKeeps'. -/
def relexKeepsUptoCard : Claim7 := { stood := { row := relexKeepsUptoRow, standIns := [], harness := (true, "1dabde1907b1a015ff16279a5a5371e9e795ac9f376963dad6f61f7fb96c06e9"), looks := true }, kinds := [], alts := [], laidByText := true, laidKinds := [.data, .data, .data, .data, .sentinel, .sentinel, .listed, .data, .pinned], laidTests := true, laidLooks := .later }
def RelexKeepsUptoCardSaid : Prop := Claim7.holds Tryd.pinned (.plain (OpenSpec.upto relexKeepsSpec)) relexKeepsUptoCard

/-- THE SECOND FORM's CARD OF 'rostrumlaw10.RelexAnew'. -/
def relexAnewUptoCard : Claim7 := { stood := { row := relexAnewUptoRow, standIns := [], harness := (true, "1dabde1907b1a015ff16279a5a5371e9e795ac9f376963dad6f61f7fb96c06e9"), looks := true }, kinds := [], alts := [], laidByText := true, laidKinds := [.data, .data, .data, .data, .sentinel, .sentinel, .listed, .data, .pinned], laidTests := true, laidLooks := .later }
def RelexAnewUptoCardSaid : Prop := Claim7.holds Tryd.pinned (.plain (OpenSpec.upto relexAnewSpec)) relexAnewUptoCard

/-- THE SECOND FORM's CARD OF 'rostrumlaw10.RelexRows'. -/
def relexRowsUptoCard : Claim7 := { stood := { row := relexRowsUptoRow, standIns := [], harness := (true, "1dabde1907b1a015ff16279a5a5371e9e795ac9f376963dad6f61f7fb96c06e9"), looks := true }, kinds := [], alts := [], laidByText := true, laidKinds := [.data, .data, .data, .data, .sentinel, .sentinel, .listed, .data, .pinned], laidTests := true, laidLooks := .later }
def RelexRowsUptoCardSaid : Prop := Claim7.holds Tryd.pinned (.plain (OpenSpec.upto relexRowsSpec)) relexRowsUptoCard

/-- THE SECOND FORM's CARD OF 'rostrumlaw10.RelexNames'. -/
def relexNamesUptoCard : Claim7 := { stood := { row := relexNamesUptoRow, standIns := [], harness := (true, "1dabde1907b1a015ff16279a5a5371e9e795ac9f376963dad6f61f7fb96c06e9"), looks := true }, kinds := [], alts := [], laidByText := true, laidKinds := [.data, .data, .data, .data, .sentinel, .sentinel, .listed, .data, .pinned], laidTests := true, laidLooks := .later }
def RelexNamesUptoCardSaid : Prop := Claim7.holds Tryd.pinned (.plain (OpenSpec.upto relexNamesSpec)) relexNamesUptoCard

/-- THE SECOND FORM's CARD OF 'rostrumlaw10.RelexBack'. -/
def relexBackUptoCard : Claim7 := { stood := { row := relexBackUptoRow, standIns := [], harness := (true, "1dabde1907b1a015ff16279a5a5371e9e795ac9f376963dad6f61f7fb96c06e9"), looks := true }, kinds := [], alts := [], laidByText := true, laidKinds := [.data, .data, .data, .data, .sentinel, .sentinel, .listed, .data, .pinned], laidTests := true, laidLooks := .later }
def RelexBackUptoCardSaid : Prop := Claim7.holds Tryd.pinned (.plain (OpenSpec.upto relexBackSpec)) relexBackUptoCard
end Rows
end Go.Proofs.YtgaciccgmjcbmaaDoor
