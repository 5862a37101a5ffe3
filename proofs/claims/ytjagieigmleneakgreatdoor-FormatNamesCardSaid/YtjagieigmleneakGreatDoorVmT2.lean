/-
  Calls whose results are known: each is shown by a run.
-/
import Derived.Test.YtjagieigmleneakGreatDoorVmM2a
import Derived.Test.YtjagieigmleneakGreatDoorVmM2b
import Derived.Test.YtjagieigmleneakGreatDoorVmM2c
set_option maxRecDepth 1000000
set_option maxHeartbeats 0
namespace Go.Proofs.YtjagieigmleneakGreatDoor.Vm
open Go Go.VM Go.Proofs
noncomputable def el2_8 : List (List AV × AV) := [(ea2a0, ev2a0), (ea2b0, ev2b0), (ea2c0, ev2c0), (ea2a1, ev2a1), (ea2b1, ev2b1), (ea2c1, ev2c1), (ea2a2, ev2a2), (ea2b2, ev2b2), (ea2c2, ev2c2), (ea2a3, ev2a3), (ea2b3, ev2b3), (ea2c3, ev2c3)]
theorem ek2_8 : ∀ e, e ∈ el2_8 → BareOk Tryz.prog vE.T vE.G 8 e.1 e.2 := memo_cons vE1_ok (fun _ => rfl) er2a0 (memo_cons vE1_ok (fun _ => rfl) er2b0 (memo_cons vE1_ok (fun _ => rfl) er2c0 (memo_cons vE1_ok (fun _ => rfl) er2a1 (memo_cons vE1_ok (fun _ => rfl) er2b1 (memo_cons vE1_ok (fun _ => rfl) er2c1 (memo_cons vE1_ok (fun _ => rfl) er2a2 (memo_cons vE1_ok (fun _ => rfl) er2b2 (memo_cons vE1_ok (fun _ => rfl) er2c2 (memo_cons vE1_ok (fun _ => rfl) er2a3 (memo_cons vE1_ok (fun _ => rfl) er2b3 (memo_cons vE1_ok (fun _ => rfl) er2c3 (memo_nil))))))))))))
noncomputable def vM2 : List (FuncId × List (List AV × AV)) := [(8, el2_8), (86, el1_86), (95, el1_95), (139, el1_139)]
noncomputable def vE2 : Env := vE.recall vM2
theorem vE2_ok : EnvOk Tryz.prog vE2 := vE_ok.recall (tab_cons ek2_8 (tab_cons ek1_86 (tab_cons ek1_95 (tab_cons ek1_139 (tab_nil)))))
end Go.Proofs.YtjagieigmleneakGreatDoor.Vm
