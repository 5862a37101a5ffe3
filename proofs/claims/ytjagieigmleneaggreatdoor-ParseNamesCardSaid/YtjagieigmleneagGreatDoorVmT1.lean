/-
  Calls whose results are known: each is shown by a run.
-/
import Derived.Test.YtjagieigmleneagGreatDoorVmM1a
import Derived.Test.YtjagieigmleneagGreatDoorVmM1b
import Derived.Test.YtjagieigmleneagGreatDoorVmM1c
import Derived.Test.YtjagieigmleneagGreatDoorVmM1d
set_option maxRecDepth 1000000
set_option maxHeartbeats 0
namespace Go.Proofs.YtjagieigmleneagGreatDoor.Vm
open Go Go.VM Go.Proofs
noncomputable def el1_44 : List (List AV × AV) := [(ea1d0, ev1d0)]
theorem ek1_44 : ∀ e, e ∈ el1_44 → BareOk Tryz.prog vE.T vE.G 44 e.1 e.2 := memo_cons vE_ok (fun _ => rfl) er1d0 (memo_nil)
noncomputable def el1_57 : List (List AV × AV) := [(ea1a0, ev1a0), (ea1b0, ev1b0), (ea1c0, ev1c0), (ea1a1, ev1a1), (ea1b1, ev1b1), (ea1d1, ev1d1)]
theorem ek1_57 : ∀ e, e ∈ el1_57 → BareOk Tryz.prog vE.T vE.G 57 e.1 e.2 := memo_cons vE_ok (fun _ => rfl) er1a0 (memo_cons vE_ok (fun _ => rfl) er1b0 (memo_cons vE_ok (fun _ => rfl) er1c0 (memo_cons vE_ok (fun _ => rfl) er1a1 (memo_cons vE_ok (fun _ => rfl) er1b1 (memo_cons vE_ok (fun _ => rfl) er1d1 (memo_nil))))))
noncomputable def el1_80 : List (List AV × AV) := [(ea1c1, ev1c1)]
theorem ek1_80 : ∀ e, e ∈ el1_80 → BareOk Tryz.prog vE.T vE.G 80 e.1 e.2 := memo_cons vE_ok (fun _ => rfl) er1c1 (memo_nil)
noncomputable def vM1 : List (FuncId × List (List AV × AV)) := [(44, el1_44), (57, el1_57), (80, el1_80)]
noncomputable def vE1 : Env := vE.recall vM1
theorem vE1_ok : EnvOk Tryz.prog vE1 := vE_ok.recall (tab_cons ek1_44 (tab_cons ek1_57 (tab_cons ek1_80 (tab_nil))))
end Go.Proofs.YtjagieigmleneagGreatDoor.Vm
