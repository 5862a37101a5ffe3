/-
  DERIVED. GIVEN WITH THE SEED: THE CARDS: each row of YtoopmjhdgkcleaaGreatDoorRows.lean that lists a variable, with what it lists TIED to the program's text (the seventh form; the later family's looks); each row that meets fmt, with fmt's text TOLD by the authors' own Lean function (tested against real Go, not proved from fmt's source: count such statements apart). THE CARD IS WHAT COUNTS. Prove the row's statement (the work); the ties are given (YtoopmjhdgkcleaaGreatDoorTie.lean); close each card by the builder's one call (the guide's Derived/Test/ToyasCard.lean, 'card_holds'). Laid BY PROGRAM, IN A SANDBOX (cutbox-door.mjs). By AI agents, Wed Nov 11 2026. No macro, syntax, notation, axiom, sorry.
-/
import Derived.Test.YtoopmjhdgkcleaaGreatDoorRows
import GoSem.ClaimSeven
namespace Go.Proofs.YtoopmjhdgkcleaaGreatDoor
namespace Rows

/-- THE TIED CARD OF 'rostrumlaw15.ScopeBound'. -/
def scopeBoundCard : Claim7 := { stood := { row := scopeBoundRow, standIns := [], harness := (true, "05624ae960f3b2f85752f7dbc3753319bdc9ee88bea0e7d1bc8b0ed57fa46412"), looks := true }, kinds := [], alts := [], laidByText := true, laidKinds := [.data, .data, .data, .data, .sentinel, .sentinel, .listed, .data, .pinned], laidTests := true, laidLooks := .later }
def ScopeBoundCardSaid : Prop := Claim7.holds Tryz.pinned (.plain (OpenSpec.ofChange scopeBoundSpec)) scopeBoundCard

/-- THE TIED CARD OF 'rostrumlaw15.ScopeBehind'. -/
def scopeBehindCard : Claim7 := { stood := { row := scopeBehindRow, standIns := [], harness := (true, "05624ae960f3b2f85752f7dbc3753319bdc9ee88bea0e7d1bc8b0ed57fa46412"), looks := true }, kinds := [], alts := [], laidByText := true, laidKinds := [.data, .data, .data, .data, .sentinel, .sentinel, .listed, .data, .pinned], laidTests := true, laidLooks := .later }
def ScopeBehindCardSaid : Prop := Claim7.holds Tryz.pinned (.plain (OpenSpec.ofChange scopeBehindSpec)) scopeBehindCard

/-- THE TIED CARD OF 'rostrumlaw15.ScopeNames'. -/
def scopeNamesCard : Claim7 := { stood := { row := scopeNamesRow, standIns := [], harness := (true, "05624ae960f3b2f85752f7dbc3753319bdc9ee88bea0e7d1bc8b0ed57fa46412"), looks := true }, kinds := [], alts := [], laidByText := true, laidKinds := [.data, .data, .data, .data, .sentinel, .sentinel, .listed, .data, .pinned], laidTests := true, laidLooks := .later }
def ScopeNamesCardSaid : Prop := Claim7.holds Tryz.pinned (.plain (OpenSpec.ofChange scopeNamesSpec)) scopeNamesCard

/-- THE TIED CARD OF 'rostrumlaw15.ScopeRenamed'. -/
def scopeRenamedCard : Claim7 := { stood := { row := scopeRenamedRow, standIns := [], harness := (true, "05624ae960f3b2f85752f7dbc3753319bdc9ee88bea0e7d1bc8b0ed57fa46412"), looks := true }, kinds := [], alts := [], laidByText := true, laidKinds := [.data, .data, .data, .data, .sentinel, .sentinel, .listed, .data, .pinned], laidTests := true, laidLooks := .later }
def ScopeRenamedCardSaid : Prop := Claim7.holds Tryz.pinned (.plain (OpenSpec.ofChange scopeRenamedSpec)) scopeRenamedCard

/-- THE SECOND FORM's CARD OF 'rostrumlaw15.ScopeBound'. -/
def scopeBoundUptoCard : Claim7 := { stood := { row := scopeBoundUptoRow, standIns := [], harness := (true, "05624ae960f3b2f85752f7dbc3753319bdc9ee88bea0e7d1bc8b0ed57fa46412"), looks := true }, kinds := [], alts := [], laidByText := true, laidKinds := [.data, .data, .data, .data, .sentinel, .sentinel, .listed, .data, .pinned], laidTests := true, laidLooks := .later }
def ScopeBoundUptoCardSaid : Prop := Claim7.holds Tryz.pinned (.plain (OpenSpec.upto scopeBoundSpec)) scopeBoundUptoCard

/-- THE SECOND FORM's CARD OF 'rostrumlaw15.ScopeBehind'. -/
def scopeBehindUptoCard : Claim7 := { stood := { row := scopeBehindUptoRow, standIns := [], harness := (true, "05624ae960f3b2f85752f7dbc3753319bdc9ee88bea0e7d1bc8b0ed57fa46412"), looks := true }, kinds := [], alts := [], laidByText := true, laidKinds := [.data, .data, .data, .data, .sentinel, .sentinel, .listed, .data, .pinned], laidTests := true, laidLooks := .later }
def ScopeBehindUptoCardSaid : Prop := Claim7.holds Tryz.pinned (.plain (OpenSpec.upto scopeBehindSpec)) scopeBehindUptoCard

/-- THE SECOND FORM's CARD OF 'rostrumlaw15.ScopeNames'. -/
def scopeNamesUptoCard : Claim7 := { stood := { row := scopeNamesUptoRow, standIns := [], harness := (true, "05624ae960f3b2f85752f7dbc3753319bdc9ee88bea0e7d1bc8b0ed57fa46412"), looks := true }, kinds := [], alts := [], laidByText := true, laidKinds := [.data, .data, .data, .data, .sentinel, .sentinel, .listed, .data, .pinned], laidTests := true, laidLooks := .later }
def ScopeNamesUptoCardSaid : Prop := Claim7.holds Tryz.pinned (.plain (OpenSpec.upto scopeNamesSpec)) scopeNamesUptoCard

/-- THE SECOND FORM's CARD OF 'rostrumlaw15.ScopeRenamed'. -/
def scopeRenamedUptoCard : Claim7 := { stood := { row := scopeRenamedUptoRow, standIns := [], harness := (true, "05624ae960f3b2f85752f7dbc3753319bdc9ee88bea0e7d1bc8b0ed57fa46412"), looks := true }, kinds := [], alts := [], laidByText := true, laidKinds := [.data, .data, .data, .data, .sentinel, .sentinel, .listed, .data, .pinned], laidTests := true, laidLooks := .later }
def ScopeRenamedUptoCardSaid : Prop := Claim7.holds Tryz.pinned (.plain (OpenSpec.upto scopeRenamedSpec)) scopeRenamedUptoCard
end Rows
end Go.Proofs.YtoopmjhdgkcleaaGreatDoor
