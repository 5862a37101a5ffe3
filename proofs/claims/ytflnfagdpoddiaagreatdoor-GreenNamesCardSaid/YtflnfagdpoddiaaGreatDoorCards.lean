/-
  DERIVED. GIVEN WITH THE SEED: THE CARDS: each row of YtflnfagdpoddiaaGreatDoorRows.lean that lists a variable, with what it lists TIED to the program's text (the seventh form; the later family's looks); each row that meets fmt, with fmt's text TOLD by the authors' own Lean function (tested against real Go, not proved from fmt's source: count such statements apart). THE CARD IS WHAT COUNTS. Prove the row's statement (the work); the ties are given (YtflnfagdpoddiaaGreatDoorTie.lean); close each card by the builder's one call (the guide's Derived/Test/ToyasCard.lean, 'card_holds'). Laid BY PROGRAM, IN A SANDBOX (cutbox-door.mjs). By AI agents, Wed Nov 11 2026. No macro, syntax, notation, axiom, sorry.
-/
import Derived.Test.YtflnfagdpoddiaaGreatDoorRows
import GoSem.ClaimSeven
namespace Go.Proofs.YtflnfagdpoddiaaGreatDoor
namespace Rows

/-- THE TIED CARD OF 'rostrumlaw11.GreenTells'. -/
def greenTellsCard : Claim7 := { stood := { row := greenTellsRow, standIns := [], harness := (true, "153d9e1c4b555a9d5909b9c1d9b0f0eac9bd974a089f7d8e4b104bae23ee842b"), looks := true }, kinds := [], alts := [], laidByText := true, laidKinds := [.data, .data, .data, .data, .sentinel, .sentinel, .listed, .data, .pinned], laidTests := true, laidLooks := .later }
def GreenTellsCardSaid : Prop := Claim7.holds Tryz.pinned (.plain (OpenSpec.ofChange greenTellsSpec)) greenTellsCard

/-- THE TIED CARD OF 'rostrumlaw11.GreenParts'. -/
def greenPartsCard : Claim7 := { stood := { row := greenPartsRow, standIns := [], harness := (true, "153d9e1c4b555a9d5909b9c1d9b0f0eac9bd974a089f7d8e4b104bae23ee842b"), looks := true }, kinds := [], alts := [], laidByText := true, laidKinds := [.data, .data, .data, .data, .sentinel, .sentinel, .listed, .data, .pinned], laidTests := true, laidLooks := .later }
def GreenPartsCardSaid : Prop := Claim7.holds Tryz.pinned (.plain (OpenSpec.ofChange greenPartsSpec)) greenPartsCard

/-- THE TIED CARD OF 'rostrumlaw11.GreenFound'. -/
def greenFoundCard : Claim7 := { stood := { row := greenFoundRow, standIns := [], harness := (true, "153d9e1c4b555a9d5909b9c1d9b0f0eac9bd974a089f7d8e4b104bae23ee842b"), looks := true }, kinds := [], alts := [], laidByText := true, laidKinds := [.data, .data, .data, .data, .sentinel, .sentinel, .listed, .data, .pinned], laidTests := true, laidLooks := .later }
def GreenFoundCardSaid : Prop := Claim7.holds Tryz.pinned (.plain (OpenSpec.ofChange greenFoundSpec)) greenFoundCard

/-- THE TIED CARD OF 'rostrumlaw11.GreenNames'. -/
def greenNamesCard : Claim7 := { stood := { row := greenNamesRow, standIns := [], harness := (true, "153d9e1c4b555a9d5909b9c1d9b0f0eac9bd974a089f7d8e4b104bae23ee842b"), looks := true }, kinds := [], alts := [], laidByText := true, laidKinds := [.data, .data, .data, .data, .sentinel, .sentinel, .listed, .data, .pinned], laidTests := true, laidLooks := .later }
def GreenNamesCardSaid : Prop := Claim7.holds Tryz.pinned (.plain (OpenSpec.ofChange greenNamesSpec)) greenNamesCard

/-- THE TIED CARD OF 'rostrumlaw11.GreenPut'. -/
def greenPutCard : Claim7 := { stood := { row := greenPutRow, standIns := [], harness := (true, "153d9e1c4b555a9d5909b9c1d9b0f0eac9bd974a089f7d8e4b104bae23ee842b"), looks := true }, kinds := [], alts := [], laidByText := true, laidKinds := [.data, .data, .data, .data, .sentinel, .sentinel, .listed, .data, .pinned], laidTests := true, laidLooks := .later }
def GreenPutCardSaid : Prop := Claim7.holds Tryz.pinned (.plain (OpenSpec.ofChange greenPutSpec)) greenPutCard

/-- THE SECOND FORM's CARD OF 'rostrumlaw11.GreenTells'. -/
def greenTellsUptoCard : Claim7 := { stood := { row := greenTellsUptoRow, standIns := [], harness := (true, "153d9e1c4b555a9d5909b9c1d9b0f0eac9bd974a089f7d8e4b104bae23ee842b"), looks := true }, kinds := [], alts := [], laidByText := true, laidKinds := [.data, .data, .data, .data, .sentinel, .sentinel, .listed, .data, .pinned], laidTests := true, laidLooks := .later }
def GreenTellsUptoCardSaid : Prop := Claim7.holds Tryz.pinned (.plain (OpenSpec.upto greenTellsSpec)) greenTellsUptoCard

/-- THE SECOND FORM's CARD OF 'rostrumlaw11.GreenParts'. -/
def greenPartsUptoCard : Claim7 := { stood := { row := greenPartsUptoRow, standIns := [], harness := (true, "153d9e1c4b555a9d5909b9c1d9b0f0eac9bd974a089f7d8e4b104bae23ee842b"), looks := true }, kinds := [], alts := [], laidByText := true, laidKinds := [.data, .data, .data, .data, .sentinel, .sentinel, .listed, .data, .pinned], laidTests := true, laidLooks := .later }
def GreenPartsUptoCardSaid : Prop := Claim7.holds Tryz.pinned (.plain (OpenSpec.upto greenPartsSpec)) greenPartsUptoCard

/-- THE SECOND FORM's CARD OF 'rostrumlaw11.GreenFound'. -/
def greenFoundUptoCard : Claim7 := { stood := { row := greenFoundUptoRow, standIns := [], harness := (true, "153d9e1c4b555a9d5909b9c1d9b0f0eac9bd974a089f7d8e4b104bae23ee842b"), looks := true }, kinds := [], alts := [], laidByText := true, laidKinds := [.data, .data, .data, .data, .sentinel, .sentinel, .listed, .data, .pinned], laidTests := true, laidLooks := .later }
def GreenFoundUptoCardSaid : Prop := Claim7.holds Tryz.pinned (.plain (OpenSpec.upto greenFoundSpec)) greenFoundUptoCard

/-- THE SECOND FORM's CARD OF 'rostrumlaw11.GreenNames'. -/
def greenNamesUptoCard : Claim7 := { stood := { row := greenNamesUptoRow, standIns := [], harness := (true, "153d9e1c4b555a9d5909b9c1d9b0f0eac9bd974a089f7d8e4b104bae23ee842b"), looks := true }, kinds := [], alts := [], laidByText := true, laidKinds := [.data, .data, .data, .data, .sentinel, .sentinel, .listed, .data, .pinned], laidTests := true, laidLooks := .later }
def GreenNamesUptoCardSaid : Prop := Claim7.holds Tryz.pinned (.plain (OpenSpec.upto greenNamesSpec)) greenNamesUptoCard

/-- THE SECOND FORM's CARD OF 'rostrumlaw11.GreenPut'. -/
def greenPutUptoCard : Claim7 := { stood := { row := greenPutUptoRow, standIns := [], harness := (true, "153d9e1c4b555a9d5909b9c1d9b0f0eac9bd974a089f7d8e4b104bae23ee842b"), looks := true }, kinds := [], alts := [], laidByText := true, laidKinds := [.data, .data, .data, .data, .sentinel, .sentinel, .listed, .data, .pinned], laidTests := true, laidLooks := .later }
def GreenPutUptoCardSaid : Prop := Claim7.holds Tryz.pinned (.plain (OpenSpec.upto greenPutSpec)) greenPutUptoCard
end Rows
end Go.Proofs.YtflnfagdpoddiaaGreatDoor
