/-
  A part of the proof.
-/
import Derived.Test.YtlfilkniobkbiaaDoorVmBE
import Derived.Test.YtlfilkniobkbiaaDoorVmBD
import Derived.Lib.AtoiAll
import Derived.Lib.ConvBytes
import Derived.Lib.SlTrimSet
/- strconv.Atoi, by its contract; a variable of which it is known that it holds an interface. -/
namespace Go.VM
open Go.RowKit
section
variable {P : Program} {T : TT} {G : Nat → Option (List AV)} {A : Nat → Prop} {g : Gh} {st : St} {w : World}
end
end Go.VM
