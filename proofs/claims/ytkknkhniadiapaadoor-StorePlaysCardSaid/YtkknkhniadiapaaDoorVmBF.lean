/-
  A part of the proof.
-/
import Derived.Test.YtkknkhniadiapaaDoorVmBE
import Derived.Test.YtkknkhniadiapaaDoorVmBD
import Derived.Lib.AtoiAll
import Derived.Lib.ConvBytes
import Derived.Lib.SlTrimSet
namespace Go.VM
open Go.RowKit
section
variable {P : Program} {T : TT} {G : Nat → Option (List AV)} {A : Nat → Prop} {g : Gh} {st : St} {w : World}
end
end Go.VM
