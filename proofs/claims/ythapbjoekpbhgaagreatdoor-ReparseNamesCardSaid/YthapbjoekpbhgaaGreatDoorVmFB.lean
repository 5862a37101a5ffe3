/-
  A part of the proof.
-/
import Derived.Test.YthapbjoekpbhgaaGreatDoorVmFA
import Derived.Test.YthapbjoekpbhgaaGreatDoorVmBJ
set_option maxRecDepth 1000000
set_option maxHeartbeats 0
namespace Go.Proofs.YthapbjoekpbhgaaGreatDoor.Vm
open Go Go.VM Go.Proofs
theorem ran0 : (kcaller vE4 (fun f => (ktable vE4 vF).get f) 3000).bare 3 [] trueK = true := by kernel_rfl
theorem law_run : (orc vE4).bare 3 [] = some (.bool true) := orc_bare (ranTrue (fun _ => rfl) ran0)
def lawS : List TypeId := []
theorem lawS_ok : ∀ t, inS lawS t = true → okTy Tryz.prog lawS t = true := fun _ h => Bool.noConfusion (show false = true from h)
end Go.Proofs.YthapbjoekpbhgaaGreatDoor.Vm
