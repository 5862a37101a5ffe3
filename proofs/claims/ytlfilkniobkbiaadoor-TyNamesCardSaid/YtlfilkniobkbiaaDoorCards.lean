/-
  DERIVED. GIVEN WITH THE SEED: THE CARDS: each row of YtlfilkniobkbiaaDoorRows.lean that lists a variable, with what it lists TIED to the program's text (the seventh form; the later family's looks); each row that meets fmt, with fmt's text TOLD by the authors' own Lean function (tested against real Go, not proved from fmt's source: count such statements apart). THE CARD IS WHAT COUNTS. Prove the row's statement (the work); the ties are given (YtlfilkniobkbiaaDoorTie.lean); close each card by the builder's one call (the guide's Derived/Test/ToyasCard.lean, 'card_holds'). Laid BY PROGRAM, IN A SANDBOX (cutbox-door.mjs). By AI agents, Wed Nov 11 2026. No macro, syntax, notation, axiom, sorry.
-/
import Derived.Test.YtlfilkniobkbiaaDoorRows
import GoSem.ClaimSeven
namespace Go.Proofs.YtlfilkniobkbiaaDoor
namespace Rows

/-- THE TIED CARD OF 'rostrumlaw16.TyShows'. -/
def tyShowsCard : Claim7 := { stood := { row := tyShowsRow, standIns := [], harness := (true, "963d16aca3e51adef542b3bd0061364958861b56a28f543a6702ebb152924af8"), looks := true }, kinds := [], alts := [], laidByText := true, laidKinds := [.data, .data, .data, .data, .pinned], laidTests := true, laidLooks := .later }
def TyShowsCardSaid : Prop := Claim7.holds Tryd.pinned (.plain (OpenSpec.ofChange tyShowsSpec)) tyShowsCard

/-- THE TIED CARD OF 'rostrumlaw16.TyAlike'. -/
def tyAlikeCard : Claim7 := { stood := { row := tyAlikeRow, standIns := [], harness := (true, "963d16aca3e51adef542b3bd0061364958861b56a28f543a6702ebb152924af8"), looks := true }, kinds := [], alts := [], laidByText := true, laidKinds := [.data, .data, .data, .data, .pinned], laidTests := true, laidLooks := .later }
def TyAlikeCardSaid : Prop := Claim7.holds Tryd.pinned (.plain (OpenSpec.ofChange tyAlikeSpec)) tyAlikeCard

/-- THE TIED CARD OF 'rostrumlaw16.TyLeast'. -/
def tyLeastCard : Claim7 := { stood := { row := tyLeastRow, standIns := [], harness := (true, "963d16aca3e51adef542b3bd0061364958861b56a28f543a6702ebb152924af8"), looks := true }, kinds := [], alts := [], laidByText := true, laidKinds := [.data, .data, .data, .data, .pinned], laidTests := true, laidLooks := .later }
def TyLeastCardSaid : Prop := Claim7.holds Tryd.pinned (.plain (OpenSpec.ofChange tyLeastSpec)) tyLeastCard

/-- THE TIED CARD OF 'rostrumlaw16.TyTexts'. -/
def tyTextsCard : Claim7 := { stood := { row := tyTextsRow, standIns := [], harness := (true, "963d16aca3e51adef542b3bd0061364958861b56a28f543a6702ebb152924af8"), looks := true }, kinds := [], alts := [], laidByText := true, laidKinds := [.data, .data, .data, .data, .pinned], laidTests := true, laidLooks := .later }
def TyTextsCardSaid : Prop := Claim7.holds Tryd.pinned (.plain (OpenSpec.ofChange tyTextsSpec)) tyTextsCard

/-- THE TIED CARD OF 'rostrumlaw16.TyNames'. -/
def tyNamesCard : Claim7 := { stood := { row := tyNamesRow, standIns := [], harness := (true, "963d16aca3e51adef542b3bd0061364958861b56a28f543a6702ebb152924af8"), looks := true }, kinds := [], alts := [], laidByText := true, laidKinds := [.data, .data, .data, .data, .pinned], laidTests := true, laidLooks := .later }
def TyNamesCardSaid : Prop := Claim7.holds Tryd.pinned (.plain (OpenSpec.ofChange tyNamesSpec)) tyNamesCard

/-- THE SECOND FORM's CARD OF 'rostrumlaw16.TyShows'. -/
def tyShowsUptoCard : Claim7 := { stood := { row := tyShowsUptoRow, standIns := [], harness := (true, "963d16aca3e51adef542b3bd0061364958861b56a28f543a6702ebb152924af8"), looks := true }, kinds := [], alts := [], laidByText := true, laidKinds := [.data, .data, .data, .data, .pinned], laidTests := true, laidLooks := .later }
def TyShowsUptoCardSaid : Prop := Claim7.holds Tryd.pinned (.plain (OpenSpec.upto tyShowsSpec)) tyShowsUptoCard

/-- THE SECOND FORM's CARD OF 'rostrumlaw16.TyAlike'. -/
def tyAlikeUptoCard : Claim7 := { stood := { row := tyAlikeUptoRow, standIns := [], harness := (true, "963d16aca3e51adef542b3bd0061364958861b56a28f543a6702ebb152924af8"), looks := true }, kinds := [], alts := [], laidByText := true, laidKinds := [.data, .data, .data, .data, .pinned], laidTests := true, laidLooks := .later }
def TyAlikeUptoCardSaid : Prop := Claim7.holds Tryd.pinned (.plain (OpenSpec.upto tyAlikeSpec)) tyAlikeUptoCard

/-- THE SECOND FORM's CARD OF 'rostrumlaw16.TyLeast'. -/
def tyLeastUptoCard : Claim7 := { stood := { row := tyLeastUptoRow, standIns := [], harness := (true, "963d16aca3e51adef542b3bd0061364958861b56a28f543a6702ebb152924af8"), looks := true }, kinds := [], alts := [], laidByText := true, laidKinds := [.data, .data, .data, .data, .pinned], laidTests := true, laidLooks := .later }
def TyLeastUptoCardSaid : Prop := Claim7.holds Tryd.pinned (.plain (OpenSpec.upto tyLeastSpec)) tyLeastUptoCard

/-- THE SECOND FORM's CARD OF 'rostrumlaw16.TyTexts'. -/
def tyTextsUptoCard : Claim7 := { stood := { row := tyTextsUptoRow, standIns := [], harness := (true, "963d16aca3e51adef542b3bd0061364958861b56a28f543a6702ebb152924af8"), looks := true }, kinds := [], alts := [], laidByText := true, laidKinds := [.data, .data, .data, .data, .pinned], laidTests := true, laidLooks := .later }
def TyTextsUptoCardSaid : Prop := Claim7.holds Tryd.pinned (.plain (OpenSpec.upto tyTextsSpec)) tyTextsUptoCard

/-- THE SECOND FORM's CARD OF 'rostrumlaw16.TyNames'. -/
def tyNamesUptoCard : Claim7 := { stood := { row := tyNamesUptoRow, standIns := [], harness := (true, "963d16aca3e51adef542b3bd0061364958861b56a28f543a6702ebb152924af8"), looks := true }, kinds := [], alts := [], laidByText := true, laidKinds := [.data, .data, .data, .data, .pinned], laidTests := true, laidLooks := .later }
def TyNamesUptoCardSaid : Prop := Claim7.holds Tryd.pinned (.plain (OpenSpec.upto tyNamesSpec)) tyNamesUptoCard
end Rows
end Go.Proofs.YtlfilkniobkbiaaDoor
