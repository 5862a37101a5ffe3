/-
  DERIVED. GIVEN WITH THE SEED: THE CARDS: each row of YticccmpaekphgaaDoorRows.lean that lists a variable, with what it lists TIED to the program's text (the seventh form; the later family's looks); each row that meets fmt, with fmt's text TOLD by the authors' own Lean function (tested against real Go, not proved from fmt's source: count such statements apart). THE CARD IS WHAT COUNTS. Prove the row's statement (the work); the ties are given (YticccmpaekphgaaDoorTie.lean); close each card by the builder's one call (the guide's Derived/Test/ToyasCard.lean, 'card_holds'). Laid BY PROGRAM, IN A SANDBOX (cutbox-door.mjs). By AI agents, Wed Nov 11 2026. No macro, syntax, notation, axiom, sorry.
-/
import Derived.Test.YticccmpaekphgaaDoorRows
import GoSem.ClaimSeven
namespace Go.Proofs.YticccmpaekphgaaDoor
namespace Rows

/-- THE TIED CARD OF 'rostrumlaw25.StoreParts'. -/
def storePartsCard : Claim7 := { stood := { row := storePartsRow, standIns := [], harness := (true, "3e3319fde7780df99712075e44fa02e7b623c3b60b86d3249df8f0af2498bd04"), looks := false }, kinds := [], alts := [], laidByText := true, laidKinds := [.data, .pinned], laidTests := true, laidLooks := .later }
def StorePartsCardSaid : Prop := Claim7.holds Tryd.pinned (.plain (OpenSpec.ofChange storePartsSpec)) storePartsCard

/-- THE TIED CARD OF 'rostrumlaw25.StoreStays'. -/
def storeStaysCard : Claim7 := { stood := { row := storeStaysRow, standIns := [], harness := (true, "3e3319fde7780df99712075e44fa02e7b623c3b60b86d3249df8f0af2498bd04"), looks := false }, kinds := [], alts := [], laidByText := true, laidKinds := [.data, .pinned], laidTests := true, laidLooks := .later }
def StoreStaysCardSaid : Prop := Claim7.holds Tryd.pinned (.plain (OpenSpec.ofChange storeStaysSpec)) storeStaysCard

/-- THE TIED CARD OF 'rostrumlaw25.StoreNames'. -/
def storeNamesCard : Claim7 := { stood := { row := storeNamesRow, standIns := [], harness := (true, "3e3319fde7780df99712075e44fa02e7b623c3b60b86d3249df8f0af2498bd04"), looks := false }, kinds := [], alts := [], laidByText := true, laidKinds := [.data, .pinned], laidTests := true, laidLooks := .later }
def StoreNamesCardSaid : Prop := Claim7.holds Tryd.pinned (.plain (OpenSpec.ofChange storeNamesSpec)) storeNamesCard

/-- THE TIED CARD OF 'rostrumlaw25.StorePlays'. -/
def storePlaysCard : Claim7 := { stood := { row := storePlaysRow, standIns := [], harness := (true, "3e3319fde7780df99712075e44fa02e7b623c3b60b86d3249df8f0af2498bd04"), looks := false }, kinds := [], alts := [], laidByText := true, laidKinds := [.data, .pinned], laidTests := true, laidLooks := .later }
def StorePlaysCardSaid : Prop := Claim7.holds Tryd.pinned (.plain (OpenSpec.ofChange storePlaysSpec)) storePlaysCard

/-- THE SECOND FORM's CARD OF 'rostrumlaw25.StoreParts'. -/
def storePartsUptoCard : Claim7 := { stood := { row := storePartsUptoRow, standIns := [], harness := (true, "3e3319fde7780df99712075e44fa02e7b623c3b60b86d3249df8f0af2498bd04"), looks := false }, kinds := [], alts := [], laidByText := true, laidKinds := [.data, .pinned], laidTests := true, laidLooks := .later }
def StorePartsUptoCardSaid : Prop := Claim7.holds Tryd.pinned (.plain (OpenSpec.upto storePartsSpec)) storePartsUptoCard

/-- THE SECOND FORM's CARD OF 'rostrumlaw25.StoreStays'. -/
def storeStaysUptoCard : Claim7 := { stood := { row := storeStaysUptoRow, standIns := [], harness := (true, "3e3319fde7780df99712075e44fa02e7b623c3b60b86d3249df8f0af2498bd04"), looks := false }, kinds := [], alts := [], laidByText := true, laidKinds := [.data, .pinned], laidTests := true, laidLooks := .later }
def StoreStaysUptoCardSaid : Prop := Claim7.holds Tryd.pinned (.plain (OpenSpec.upto storeStaysSpec)) storeStaysUptoCard

/-- THE SECOND FORM's CARD OF 'rostrumlaw25.StoreNames'. -/
def storeNamesUptoCard : Claim7 := { stood := { row := storeNamesUptoRow, standIns := [], harness := (true, "3e3319fde7780df99712075e44fa02e7b623c3b60b86d3249df8f0af2498bd04"), looks := false }, kinds := [], alts := [], laidByText := true, laidKinds := [.data, .pinned], laidTests := true, laidLooks := .later }
def StoreNamesUptoCardSaid : Prop := Claim7.holds Tryd.pinned (.plain (OpenSpec.upto storeNamesSpec)) storeNamesUptoCard

/-- THE SECOND FORM's CARD OF 'rostrumlaw25.StorePlays'. -/
def storePlaysUptoCard : Claim7 := { stood := { row := storePlaysUptoRow, standIns := [], harness := (true, "3e3319fde7780df99712075e44fa02e7b623c3b60b86d3249df8f0af2498bd04"), looks := false }, kinds := [], alts := [], laidByText := true, laidKinds := [.data, .pinned], laidTests := true, laidLooks := .later }
def StorePlaysUptoCardSaid : Prop := Claim7.holds Tryd.pinned (.plain (OpenSpec.upto storePlaysSpec)) storePlaysUptoCard
end Rows
end Go.Proofs.YticccmpaekphgaaDoor
