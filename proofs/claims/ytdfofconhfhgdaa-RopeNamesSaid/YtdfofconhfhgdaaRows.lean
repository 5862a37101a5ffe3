/-
  No cell of these rows narrows 'for every input' (looked for: loops, veiled, ifaces, maps, wideKeys, modest, calm, conditions, laid).
  DERIVED. THE GIVEN ROWS OF THIS SEAT. 4 by the template 'for every input the law returns true; each argument reads behind the call as it read before'; 0 by the template 'total and deterministic' (their statements: YtdfofconhfhgdaaTotals.lean).
  GIVEN WITH THE SEED: the statements are not yours to turn. If you find one false, say at which input.
  Laid BY PROGRAM, IN A SANDBOX (cutbox-rows.mjs): the forced cells as the released guide's own fill.sh prints them over the translation 588cd84c64fde0eb… (all of the seat's roots in one cut). By AI agents, Wed Nov 11 2026. No macro, syntax, notation, axiom, sorry.
-/
import Derived.Test.YtdfofconhfhgdaaChecked
import GoSem.Claim
import GoSem.ClaimJoined
import GoSem.ClaimMapViews
import Derived.JoinedTies
import Derived.KernelRfl
namespace Go.Proofs.Ytdfofconhfhgdaa
/- THE CELL 'sum', in the pinned program and in every row, IS THE sha256 OF THE DUMP (.gsa) THAT YtdfofconhfhgdaaProg.lean LOADS. Nothing in Lean hashes anything: it is a label: what it is worth is what the hold of that sum in a sandbox is worth. -/
noncomputable def Try.pinned : Pinned := { name := "ytdfofconhfhgdaa", sum := "588cd84c64fde0ebe4ad483d19e250c9aae964ff2a957e296b739e4c161d68d4", checked := Try.checked }
namespace Rows
def none {H : Type} : Left H := { results := [], args := [] }

/-- 'rostrumlaw03.RopeKept': WHATEVER THE INPUT: true; the input reads as it did. -/
def ropeKeptSpec : ChangeSpec := { name := "ropeKept", fn := fun _ => fun
  | [d1, d2, d3, d4, d5] => { results := [.lit (.bool true)], args := [d1, d2, d3, d4, d5] }
  | _ => none }
def ropeKeptRow : OpenClaim := { program := "ytdfofconhfhgdaa", sum := "588cd84c64fde0ebe4ad483d19e250c9aae964ff2a957e296b739e4c161d68d4", func := "rostrum/rostrumlaw03.RopeKept", spec := "ropeKept", inPlace := ["internal/bytealg.CountString", "internal/bytealg.IndexByteString", "internal/bytealg.IndexString", "internal/abi.NoEscape"], recurses := true, named := ["internal/bytealg.MaxLen"], apart := false }
def RopeKeptSaid : Prop := ropeKeptRow.holds Try.pinned (OpenSpec.ofChange ropeKeptSpec)

/-- ITS FALSE NEIGHBOUR: 'it returns false'. Refute it at one input. -/
def ropeKeptWrong : ChangeSpec := { name := "ropeKept", fn := fun _ => fun
  | [d1, d2, d3, d4, d5] => { results := [.lit (.bool false)], args := [d1, d2, d3, d4, d5] }
  | _ => none }
def RopeKeptWrongFalsely : Prop := ropeKeptRow.holds Try.pinned (OpenSpec.ofChange ropeKeptWrong)

/-- 'rostrumlaw03.RopeLines': WHATEVER THE INPUT: true; the input reads as it did. -/
def ropeLinesSpec : ChangeSpec := { name := "ropeLines", fn := fun _ => fun
  | [d1, d2] => { results := [.lit (.bool true)], args := [d1, d2] }
  | _ => none }
def ropeLinesRow : OpenClaim := { program := "ytdfofconhfhgdaa", sum := "588cd84c64fde0ebe4ad483d19e250c9aae964ff2a957e296b739e4c161d68d4", func := "rostrum/rostrumlaw03.RopeLines", spec := "ropeLines", inPlace := ["internal/bytealg.CountString", "internal/bytealg.IndexByteString", "internal/bytealg.IndexString", "internal/abi.NoEscape"], recurses := true, named := ["internal/bytealg.MaxLen"], apart := false }
def RopeLinesSaid : Prop := ropeLinesRow.holds Try.pinned (OpenSpec.ofChange ropeLinesSpec)

/-- ITS FALSE NEIGHBOUR: 'it returns false'. Refute it at one input. -/
def ropeLinesWrong : ChangeSpec := { name := "ropeLines", fn := fun _ => fun
  | [d1, d2] => { results := [.lit (.bool false)], args := [d1, d2] }
  | _ => none }
def RopeLinesWrongFalsely : Prop := ropeLinesRow.holds Try.pinned (OpenSpec.ofChange ropeLinesWrong)

/-- 'rostrumlaw03.RopeNames': WHATEVER THE INPUT: true; the input reads as it did. -/
def ropeNamesSpec : ChangeSpec := { name := "ropeNames", fn := fun _ => fun
  | [] => { results := [.lit (.bool true)], args := [] }
  | _ => none }
def ropeNamesRow : OpenClaim := { program := "ytdfofconhfhgdaa", sum := "588cd84c64fde0ebe4ad483d19e250c9aae964ff2a957e296b739e4c161d68d4", func := "rostrum/rostrumlaw03.RopeNames", spec := "ropeNames", inPlace := ["internal/bytealg.CountString", "internal/bytealg.IndexByteString", "internal/bytealg.IndexString", "internal/abi.NoEscape"], recurses := true, named := ["internal/bytealg.MaxLen"], apart := false }
def RopeNamesSaid : Prop := ropeNamesRow.holds Try.pinned (OpenSpec.ofChange ropeNamesSpec)

/-- ITS FALSE NEIGHBOUR: 'it returns false'. Refute it at one input. -/
def ropeNamesWrong : ChangeSpec := { name := "ropeNames", fn := fun _ => fun
  | [] => { results := [.lit (.bool false)], args := [] }
  | _ => none }
def RopeNamesWrongFalsely : Prop := ropeNamesRow.holds Try.pinned (OpenSpec.ofChange ropeNamesWrong)

/-- 'rostrumlaw03.RopePlays': WHATEVER THE INPUT: true; the input reads as it did. -/
def ropePlaysSpec : ChangeSpec := { name := "ropePlays", fn := fun _ => fun
  | [d1, d2] => { results := [.lit (.bool true)], args := [d1, d2] }
  | _ => none }
def ropePlaysRow : OpenClaim := { program := "ytdfofconhfhgdaa", sum := "588cd84c64fde0ebe4ad483d19e250c9aae964ff2a957e296b739e4c161d68d4", func := "rostrum/rostrumlaw03.RopePlays", spec := "ropePlays", inPlace := ["internal/bytealg.CountString", "internal/bytealg.IndexByteString", "internal/bytealg.IndexString", "internal/abi.NoEscape"], recurses := true, named := ["internal/bytealg.MaxLen"], apart := false }
def RopePlaysSaid : Prop := ropePlaysRow.holds Try.pinned (OpenSpec.ofChange ropePlaysSpec)

/-- ITS FALSE NEIGHBOUR: 'it returns false'. Refute it at one input. -/
def ropePlaysWrong : ChangeSpec := { name := "ropePlays", fn := fun _ => fun
  | [d1, d2] => { results := [.lit (.bool false)], args := [d1, d2] }
  | _ => none }
def RopePlaysWrongFalsely : Prop := ropePlaysRow.holds Try.pinned (OpenSpec.ofChange ropePlaysWrong)

/- THE SECOND FORM. 'bulk': how many values and letters a reading holds, each counted each time it is reached (what is shared counts as often as it is met; a slice's spare places count too). A statement '..UptoSaid' is the law's where the arguments, and the package variables that the reading takes, are together of bulk at most 1048576: NARROWER than '..Said'. Prove '..Said' where nothing that the law and all that it calls make is longer than what came in: it says more and counts as full. Else prove '..UptoSaid'. A law counts once. -/
mutual
def uptoBulk {H : Type} : DataW H → Nat
  | .lit (.string bytes) => bytes.length + 1
  | .lit _ => 1
  | .nil => 1
  | .ptr d => uptoBulk d + 1
  | .slice elems spare => uptoBulkAll elems + uptoBulkAll spare + 1
  | .agg parts => uptoBulkAll parts + 1
  | .iface _ d => uptoBulk d + 1
  | .map entries => uptoBulkEntries entries + 1
  | .held _ => 1
def uptoBulkAll {H : Type} : List (DataW H) → Nat
  | [] => 0
  | d :: r => uptoBulk d + uptoBulkAll r
def uptoBulkEntries {H : Type} : List (Lit × DataW H) → Nat
  | [] => 0
  | x :: r => uptoBulkEntry x + uptoBulkEntries r
def uptoBulkEntry {H : Type} : Lit × DataW H → Nat
  | (.string bytes, d) => bytes.length + uptoBulk d + 1
  | (_, d) => uptoBulk d + 1
 end
def uptoSmall : (H : Type) → List (DataW H) → Bool := fun _ ds => decide (uptoBulkAll ds ≤ 1048576)
def OpenSpec.upto (s : _root_.Go.ChangeSpec) : _root_.Go.OpenSpec := { _root_.Go.OpenSpec.ofChange s with cond := some uptoSmall }

/-- 'rostrumlaw03.RopeKept', WHERE WHAT IT READS IS OF BULK AT MOST 1048576: true; the input reads as it did. -/
def ropeKeptUptoRow : OpenClaim := { program := "ytdfofconhfhgdaa", sum := "588cd84c64fde0ebe4ad483d19e250c9aae964ff2a957e296b739e4c161d68d4", func := "rostrum/rostrumlaw03.RopeKept", spec := "ropeKept", inPlace := ["internal/bytealg.CountString", "internal/bytealg.IndexByteString", "internal/bytealg.IndexString", "internal/abi.NoEscape"], recurses := true, named := ["internal/bytealg.MaxLen"], apart := false, narrowed := true }
def RopeKeptUptoSaid : Prop := ropeKeptUptoRow.holds Try.pinned (OpenSpec.upto ropeKeptSpec)

/-- 'rostrumlaw03.RopeLines', WHERE WHAT IT READS IS OF BULK AT MOST 1048576: true; the input reads as it did. -/
def ropeLinesUptoRow : OpenClaim := { program := "ytdfofconhfhgdaa", sum := "588cd84c64fde0ebe4ad483d19e250c9aae964ff2a957e296b739e4c161d68d4", func := "rostrum/rostrumlaw03.RopeLines", spec := "ropeLines", inPlace := ["internal/bytealg.CountString", "internal/bytealg.IndexByteString", "internal/bytealg.IndexString", "internal/abi.NoEscape"], recurses := true, named := ["internal/bytealg.MaxLen"], apart := false, narrowed := true }
def RopeLinesUptoSaid : Prop := ropeLinesUptoRow.holds Try.pinned (OpenSpec.upto ropeLinesSpec)

/-- 'rostrumlaw03.RopeNames', WHERE WHAT IT READS IS OF BULK AT MOST 1048576: true; the input reads as it did. -/
def ropeNamesUptoRow : OpenClaim := { program := "ytdfofconhfhgdaa", sum := "588cd84c64fde0ebe4ad483d19e250c9aae964ff2a957e296b739e4c161d68d4", func := "rostrum/rostrumlaw03.RopeNames", spec := "ropeNames", inPlace := ["internal/bytealg.CountString", "internal/bytealg.IndexByteString", "internal/bytealg.IndexString", "internal/abi.NoEscape"], recurses := true, named := ["internal/bytealg.MaxLen"], apart := false, narrowed := true }
def RopeNamesUptoSaid : Prop := ropeNamesUptoRow.holds Try.pinned (OpenSpec.upto ropeNamesSpec)

/-- 'rostrumlaw03.RopePlays', WHERE WHAT IT READS IS OF BULK AT MOST 1048576: true; the input reads as it did. -/
def ropePlaysUptoRow : OpenClaim := { program := "ytdfofconhfhgdaa", sum := "588cd84c64fde0ebe4ad483d19e250c9aae964ff2a957e296b739e4c161d68d4", func := "rostrum/rostrumlaw03.RopePlays", spec := "ropePlays", inPlace := ["internal/bytealg.CountString", "internal/bytealg.IndexByteString", "internal/bytealg.IndexString", "internal/abi.NoEscape"], recurses := true, named := ["internal/bytealg.MaxLen"], apart := false, narrowed := true }
def RopePlaysUptoSaid : Prop := ropePlaysUptoRow.holds Try.pinned (OpenSpec.upto ropePlaysSpec)

end Rows
end Go.Proofs.Ytdfofconhfhgdaa
