/-
  A part of the proof.
-/
import Derived.Test.YtlfilkniobkbiaaDoorVmBE
import Derived.Shelf.Unicode.DecodeSlow
import Derived.Lib.TrimUEq
/- utf8.ValidString, by its contract: the two tables. -/
namespace Go.VM
open Go.RowKit
section
variable {P : Program} {T : TT} {G : Nat → Option (List AV)} {A : Nat → Prop} {g : Gh} {st : St} {w : World}
end
end Go.VM
