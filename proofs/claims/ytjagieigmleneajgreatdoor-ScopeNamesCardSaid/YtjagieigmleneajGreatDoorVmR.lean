/-
  The run of the law by the fast value machine.
-/
import Derived.Test.YtjagieigmleneajGreatDoorVmT4
set_option maxRecDepth 1000000
set_option maxHeartbeats 0
namespace Go.Proofs.YtjagieigmleneajGreatDoor.Vm
open Go Go.VM Go.Proofs
theorem ran0 : (kcaller vE4 (fun f => (ktable vE4 vF).get f) 3000).bare 3 [] trueK = true := by kernel_rfl
end Go.Proofs.YtjagieigmleneajGreatDoor.Vm
