/-
  DERIVED. GIVEN WITH THE SEED: THE CARDS: each row of YteajphhelkdjnaaDoorRows.lean that lists a variable, with what it lists TIED to the program's text (the seventh form; the later family's looks); each row that meets fmt, with fmt's text TOLD by the authors' own Lean function (tested against real Go, not proved from fmt's source: count such statements apart). THE CARD IS WHAT COUNTS. Prove the row's statement (the work); the ties are given (YteajphhelkdjnaaDoorTie.lean); close each card by the builder's one call (the guide's Derived/Test/ToyasCard.lean, 'card_holds'). Laid BY PROGRAM, IN A SANDBOX (cutbox-door.mjs). By AI agents, Wed Nov 11 2026. No macro, syntax, notation, axiom, sorry.
-/
import Derived.Test.YteajphhelkdjnaaDoorRows
import GoSem.ClaimSeven
namespace Go.Proofs.YteajphhelkdjnaaDoor
namespace Rows

/-- THE TIED CARD OF 'rostrumlaw19.LayoutShows'. -/
def layoutShowsCard : Claim7 := { stood := { row := layoutShowsRow, standIns := [], harness := (true, "14bb8c912b2053bea009f15019fea5cbe854737e9177e204eb8171e6d8e96ec2"), looks := false }, kinds := [], alts := [], laidByText := true, laidKinds := [.data, .pinned], laidTests := true, laidLooks := .later }
def LayoutShowsCardSaid : Prop := Claim7.holds Tryd.pinned (.plain (OpenSpec.ofChange layoutShowsSpec)) layoutShowsCard

/-- THE TIED CARD OF 'rostrumlaw19.LayoutNames'. -/
def layoutNamesCard : Claim7 := { stood := { row := layoutNamesRow, standIns := [], harness := (true, "14bb8c912b2053bea009f15019fea5cbe854737e9177e204eb8171e6d8e96ec2"), looks := false }, kinds := [], alts := [], laidByText := true, laidKinds := [.data, .pinned], laidTests := true, laidLooks := .later }
def LayoutNamesCardSaid : Prop := Claim7.holds Tryd.pinned (.plain (OpenSpec.ofChange layoutNamesSpec)) layoutNamesCard

/-- THE TIED CARD OF 'rostrumlaw19.LayoutTexts'. -/
def layoutTextsCard : Claim7 := { stood := { row := layoutTextsRow, standIns := [], harness := (true, "14bb8c912b2053bea009f15019fea5cbe854737e9177e204eb8171e6d8e96ec2"), looks := false }, kinds := [], alts := [], laidByText := true, laidKinds := [.data, .pinned], laidTests := true, laidLooks := .later }
def LayoutTextsCardSaid : Prop := Claim7.holds Tryd.pinned (.plain (OpenSpec.ofChange layoutTextsSpec)) layoutTextsCard

/-- THE TIED CARD OF 'rostrumlaw19.LayoutOne'. -/
def layoutOneCard : Claim7 := { stood := { row := layoutOneRow, standIns := [], harness := (true, "14bb8c912b2053bea009f15019fea5cbe854737e9177e204eb8171e6d8e96ec2"), looks := false }, kinds := [], alts := [], laidByText := true, laidKinds := [.data, .pinned], laidTests := true, laidLooks := .later }
def LayoutOneCardSaid : Prop := Claim7.holds Tryd.pinned (.plain (OpenSpec.ofChange layoutOneSpec)) layoutOneCard

/-- THE TIED CARD OF 'rostrumlaw19.LayoutRows'. -/
def layoutRowsCard : Claim7 := { stood := { row := layoutRowsRow, standIns := [], harness := (true, "14bb8c912b2053bea009f15019fea5cbe854737e9177e204eb8171e6d8e96ec2"), looks := false }, kinds := [], alts := [], laidByText := true, laidKinds := [.data, .pinned], laidTests := true, laidLooks := .later }
def LayoutRowsCardSaid : Prop := Claim7.holds Tryd.pinned (.plain (OpenSpec.ofChange layoutRowsSpec)) layoutRowsCard

/-- THE SECOND FORM's CARD OF 'rostrumlaw19.LayoutShows'. -/
def layoutShowsUptoCard : Claim7 := { stood := { row := layoutShowsUptoRow, standIns := [], harness := (true, "14bb8c912b2053bea009f15019fea5cbe854737e9177e204eb8171e6d8e96ec2"), looks := false }, kinds := [], alts := [], laidByText := true, laidKinds := [.data, .pinned], laidTests := true, laidLooks := .later }
def LayoutShowsUptoCardSaid : Prop := Claim7.holds Tryd.pinned (.plain (OpenSpec.upto layoutShowsSpec)) layoutShowsUptoCard

/-- THE SECOND FORM's CARD OF 'rostrumlaw19.LayoutNames'. -/
def layoutNamesUptoCard : Claim7 := { stood := { row := layoutNamesUptoRow, standIns := [], harness := (true, "14bb8c912b2053bea009f15019fea5cbe854737e9177e204eb8171e6d8e96ec2"), looks := false }, kinds := [], alts := [], laidByText := true, laidKinds := [.data, .pinned], laidTests := true, laidLooks := .later }
def LayoutNamesUptoCardSaid : Prop := Claim7.holds Tryd.pinned (.plain (OpenSpec.upto layoutNamesSpec)) layoutNamesUptoCard

/-- THE SECOND FORM's CARD OF 'rostrumlaw19.LayoutTexts'. -/
def layoutTextsUptoCard : Claim7 := { stood := { row := layoutTextsUptoRow, standIns := [], harness := (true, "14bb8c912b2053bea009f15019fea5cbe854737e9177e204eb8171e6d8e96ec2"), looks := false }, kinds := [], alts := [], laidByText := true, laidKinds := [.data, .pinned], laidTests := true, laidLooks := .later }
def LayoutTextsUptoCardSaid : Prop := Claim7.holds Tryd.pinned (.plain (OpenSpec.upto layoutTextsSpec)) layoutTextsUptoCard

/-- THE SECOND FORM's CARD OF 'rostrumlaw19.LayoutOne'. -/
def layoutOneUptoCard : Claim7 := { stood := { row := layoutOneUptoRow, standIns := [], harness := (true, "14bb8c912b2053bea009f15019fea5cbe854737e9177e204eb8171e6d8e96ec2"), looks := false }, kinds := [], alts := [], laidByText := true, laidKinds := [.data, .pinned], laidTests := true, laidLooks := .later }
def LayoutOneUptoCardSaid : Prop := Claim7.holds Tryd.pinned (.plain (OpenSpec.upto layoutOneSpec)) layoutOneUptoCard

/-- THE SECOND FORM's CARD OF 'rostrumlaw19.LayoutRows'. -/
def layoutRowsUptoCard : Claim7 := { stood := { row := layoutRowsUptoRow, standIns := [], harness := (true, "14bb8c912b2053bea009f15019fea5cbe854737e9177e204eb8171e6d8e96ec2"), looks := false }, kinds := [], alts := [], laidByText := true, laidKinds := [.data, .pinned], laidTests := true, laidLooks := .later }
def LayoutRowsUptoCardSaid : Prop := Claim7.holds Tryd.pinned (.plain (OpenSpec.upto layoutRowsSpec)) layoutRowsUptoCard
end Rows
end Go.Proofs.YteajphhelkdjnaaDoor
