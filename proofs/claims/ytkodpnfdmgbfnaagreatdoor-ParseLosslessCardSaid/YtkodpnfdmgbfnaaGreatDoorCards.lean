/-
  DERIVED. GIVEN WITH THE SEED: THE CARDS: each row of YtkodpnfdmgbfnaaGreatDoorRows.lean that lists a variable, with what it lists TIED to the program's text (the seventh form; the later family's looks); each row that meets fmt, with fmt's text TOLD by the authors' own Lean function (tested against real Go, not proved from fmt's source: count such statements apart). THE CARD IS WHAT COUNTS. Prove the row's statement (the work); the ties are given (YtkodpnfdmgbfnaaGreatDoorTie.lean); close each card by the builder's one call (the guide's Derived/Test/ToyasCard.lean, 'card_holds'). Laid BY PROGRAM, IN A SANDBOX (cutbox-door.mjs). By AI agents, Wed Nov 11 2026. No macro, syntax, notation, axiom, sorry.
-/
import Derived.Test.YtkodpnfdmgbfnaaGreatDoorRows
import GoSem.ClaimSeven
namespace Go.Proofs.YtkodpnfdmgbfnaaGreatDoor
namespace Rows

/-- THE TIED CARD OF 'rostrumlaw12.ParseBlanks'. -/
def parseBlanksCard : Claim7 := { stood := { row := parseBlanksRow, standIns := [], harness := (true, "a374b682ec4dc7e23c799d2b6d2fa0a4636ecb073b13308de2e99786d52addde"), looks := true }, kinds := [], alts := [], laidByText := true, laidKinds := [.data, .data, .data, .data, .sentinel, .sentinel, .listed, .data, .pinned], laidTests := true, laidLooks := .later }
def ParseBlanksCardSaid : Prop := Claim7.holds Tryz.pinned (.plain (OpenSpec.ofChange parseBlanksSpec)) parseBlanksCard

/-- THE TIED CARD OF 'rostrumlaw12.ParseTrees'. -/
def parseTreesCard : Claim7 := { stood := { row := parseTreesRow, standIns := [], harness := (true, "a374b682ec4dc7e23c799d2b6d2fa0a4636ecb073b13308de2e99786d52addde"), looks := true }, kinds := [], alts := [], laidByText := true, laidKinds := [.data, .data, .data, .data, .sentinel, .sentinel, .listed, .data, .pinned], laidTests := true, laidLooks := .later }
def ParseTreesCardSaid : Prop := Claim7.holds Tryz.pinned (.plain (OpenSpec.ofChange parseTreesSpec)) parseTreesCard

/-- THE TIED CARD OF 'rostrumlaw12.ParseGood'. -/
def parseGoodCard : Claim7 := { stood := { row := parseGoodRow, standIns := [], harness := (true, "a374b682ec4dc7e23c799d2b6d2fa0a4636ecb073b13308de2e99786d52addde"), looks := true }, kinds := [], alts := [], laidByText := true, laidKinds := [.data, .data, .data, .data, .sentinel, .sentinel, .listed, .data, .pinned], laidTests := true, laidLooks := .later }
def ParseGoodCardSaid : Prop := Claim7.holds Tryz.pinned (.plain (OpenSpec.ofChange parseGoodSpec)) parseGoodCard

/-- THE TIED CARD OF 'rostrumlaw12.ParseNames'. -/
def parseNamesCard : Claim7 := { stood := { row := parseNamesRow, standIns := [], harness := (true, "a374b682ec4dc7e23c799d2b6d2fa0a4636ecb073b13308de2e99786d52addde"), looks := true }, kinds := [], alts := [], laidByText := true, laidKinds := [.data, .data, .data, .data, .sentinel, .sentinel, .listed, .data, .pinned], laidTests := true, laidLooks := .later }
def ParseNamesCardSaid : Prop := Claim7.holds Tryz.pinned (.plain (OpenSpec.ofChange parseNamesSpec)) parseNamesCard

/-- THE TIED CARD OF 'rostrumlaw12.ParseLossless'. -/
def parseLosslessCard : Claim7 := { stood := { row := parseLosslessRow, standIns := [], harness := (true, "a374b682ec4dc7e23c799d2b6d2fa0a4636ecb073b13308de2e99786d52addde"), looks := true }, kinds := [], alts := [], laidByText := true, laidKinds := [.data, .data, .data, .data, .sentinel, .sentinel, .listed, .data, .pinned], laidTests := true, laidLooks := .later }
def ParseLosslessCardSaid : Prop := Claim7.holds Tryz.pinned (.plain (OpenSpec.ofChange parseLosslessSpec)) parseLosslessCard

/-- THE TIED CARD OF 'rostrumlaw12.ParseTwo'. -/
def parseTwoCard : Claim7 := { stood := { row := parseTwoRow, standIns := [], harness := (true, "a374b682ec4dc7e23c799d2b6d2fa0a4636ecb073b13308de2e99786d52addde"), looks := true }, kinds := [], alts := [], laidByText := true, laidKinds := [.data, .data, .data, .data, .sentinel, .sentinel, .listed, .data, .pinned], laidTests := true, laidLooks := .later }
def ParseTwoCardSaid : Prop := Claim7.holds Tryz.pinned (.plain (OpenSpec.ofChange parseTwoSpec)) parseTwoCard

/-- THE SECOND FORM's CARD OF 'rostrumlaw12.ParseBlanks'. -/
def parseBlanksUptoCard : Claim7 := { stood := { row := parseBlanksUptoRow, standIns := [], harness := (true, "a374b682ec4dc7e23c799d2b6d2fa0a4636ecb073b13308de2e99786d52addde"), looks := true }, kinds := [], alts := [], laidByText := true, laidKinds := [.data, .data, .data, .data, .sentinel, .sentinel, .listed, .data, .pinned], laidTests := true, laidLooks := .later }
def ParseBlanksUptoCardSaid : Prop := Claim7.holds Tryz.pinned (.plain (OpenSpec.upto parseBlanksSpec)) parseBlanksUptoCard

/-- THE SECOND FORM's CARD OF 'rostrumlaw12.ParseTrees'. -/
def parseTreesUptoCard : Claim7 := { stood := { row := parseTreesUptoRow, standIns := [], harness := (true, "a374b682ec4dc7e23c799d2b6d2fa0a4636ecb073b13308de2e99786d52addde"), looks := true }, kinds := [], alts := [], laidByText := true, laidKinds := [.data, .data, .data, .data, .sentinel, .sentinel, .listed, .data, .pinned], laidTests := true, laidLooks := .later }
def ParseTreesUptoCardSaid : Prop := Claim7.holds Tryz.pinned (.plain (OpenSpec.upto parseTreesSpec)) parseTreesUptoCard

/-- THE SECOND FORM's CARD OF 'rostrumlaw12.ParseGood'. -/
def parseGoodUptoCard : Claim7 := { stood := { row := parseGoodUptoRow, standIns := [], harness := (true, "a374b682ec4dc7e23c799d2b6d2fa0a4636ecb073b13308de2e99786d52addde"), looks := true }, kinds := [], alts := [], laidByText := true, laidKinds := [.data, .data, .data, .data, .sentinel, .sentinel, .listed, .data, .pinned], laidTests := true, laidLooks := .later }
def ParseGoodUptoCardSaid : Prop := Claim7.holds Tryz.pinned (.plain (OpenSpec.upto parseGoodSpec)) parseGoodUptoCard

/-- THE SECOND FORM's CARD OF 'rostrumlaw12.ParseNames'. -/
def parseNamesUptoCard : Claim7 := { stood := { row := parseNamesUptoRow, standIns := [], harness := (true, "a374b682ec4dc7e23c799d2b6d2fa0a4636ecb073b13308de2e99786d52addde"), looks := true }, kinds := [], alts := [], laidByText := true, laidKinds := [.data, .data, .data, .data, .sentinel, .sentinel, .listed, .data, .pinned], laidTests := true, laidLooks := .later }
def ParseNamesUptoCardSaid : Prop := Claim7.holds Tryz.pinned (.plain (OpenSpec.upto parseNamesSpec)) parseNamesUptoCard

/-- THE SECOND FORM's CARD OF 'rostrumlaw12.ParseLossless'. -/
def parseLosslessUptoCard : Claim7 := { stood := { row := parseLosslessUptoRow, standIns := [], harness := (true, "a374b682ec4dc7e23c799d2b6d2fa0a4636ecb073b13308de2e99786d52addde"), looks := true }, kinds := [], alts := [], laidByText := true, laidKinds := [.data, .data, .data, .data, .sentinel, .sentinel, .listed, .data, .pinned], laidTests := true, laidLooks := .later }
def ParseLosslessUptoCardSaid : Prop := Claim7.holds Tryz.pinned (.plain (OpenSpec.upto parseLosslessSpec)) parseLosslessUptoCard

/-- THE SECOND FORM's CARD OF 'rostrumlaw12.ParseTwo'. -/
def parseTwoUptoCard : Claim7 := { stood := { row := parseTwoUptoRow, standIns := [], harness := (true, "a374b682ec4dc7e23c799d2b6d2fa0a4636ecb073b13308de2e99786d52addde"), looks := true }, kinds := [], alts := [], laidByText := true, laidKinds := [.data, .data, .data, .data, .sentinel, .sentinel, .listed, .data, .pinned], laidTests := true, laidLooks := .later }
def ParseTwoUptoCardSaid : Prop := Claim7.holds Tryz.pinned (.plain (OpenSpec.upto parseTwoSpec)) parseTwoUptoCard
end Rows
end Go.Proofs.YtkodpnfdmgbfnaaGreatDoor
