/-
  (A part of the proof: Laid.)
-/
import Derived.Test.YtoopmjhdgkcleaaVmBC
import Derived.Lib.LaidU8
import Derived.MakeChecks
/- What a row says of the tables. -/
namespace Go.VM
open Go.Lib Go.MakeChecks

end Go.VM
