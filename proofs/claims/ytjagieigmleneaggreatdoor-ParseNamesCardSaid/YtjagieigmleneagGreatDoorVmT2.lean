/-
  Calls whose results are known: each is shown by a run.
-/
import Derived.Test.YtjagieigmleneagGreatDoorVmM2a
import Derived.Test.YtjagieigmleneagGreatDoorVmM2b
import Derived.Test.YtjagieigmleneagGreatDoorVmM2c
import Derived.Test.YtjagieigmleneagGreatDoorVmM2d
set_option maxRecDepth 1000000
set_option maxHeartbeats 0
namespace Go.Proofs.YtjagieigmleneagGreatDoor.Vm
open Go Go.VM Go.Proofs
noncomputable def el2_5 : List (List AV × AV) := [(ea2a0, ev2a0), (ea2b0, ev2b0), (ea2c0, ev2c0), (ea2d0, ev2d0), (ea2a1, ev2a1), (ea2b1, ev2b1), (ea2c1, ev2c1), (ea2d1, ev2d1), (ea2a2, ev2a2), (ea2b2, ev2b2), (ea2c2, ev2c2), (ea2d2, ev2d2), (ea2a3, ev2a3), (ea2b3, ev2b3), (ea2c3, ev2c3), (ea2d3, ev2d3), (ea2a4, ev2a4), (ea2b4, ev2b4), (ea2c4, ev2c4), (ea2d4, ev2d4), (ea2a5, ev2a5), (ea2b5, ev2b5), (ea2c5, ev2c5)]
theorem ek2_5 : ∀ e, e ∈ el2_5 → BareOk Tryz.prog vE.T vE.G 5 e.1 e.2 := memo_cons vE1_ok (fun _ => rfl) er2a0 (memo_cons vE1_ok (fun _ => rfl) er2b0 (memo_cons vE1_ok (fun _ => rfl) er2c0 (memo_cons vE1_ok (fun _ => rfl) er2d0 (memo_cons vE1_ok (fun _ => rfl) er2a1 (memo_cons vE1_ok (fun _ => rfl) er2b1 (memo_cons vE1_ok (fun _ => rfl) er2c1 (memo_cons vE1_ok (fun _ => rfl) er2d1 (memo_cons vE1_ok (fun _ => rfl) er2a2 (memo_cons vE1_ok (fun _ => rfl) er2b2 (memo_cons vE1_ok (fun _ => rfl) er2c2 (memo_cons vE1_ok (fun _ => rfl) er2d2 (memo_cons vE1_ok (fun _ => rfl) er2a3 (memo_cons vE1_ok (fun _ => rfl) er2b3 (memo_cons vE1_ok (fun _ => rfl) er2c3 (memo_cons vE1_ok (fun _ => rfl) er2d3 (memo_cons vE1_ok (fun _ => rfl) er2a4 (memo_cons vE1_ok (fun _ => rfl) er2b4 (memo_cons vE1_ok (fun _ => rfl) er2c4 (memo_cons vE1_ok (fun _ => rfl) er2d4 (memo_cons vE1_ok (fun _ => rfl) er2a5 (memo_cons vE1_ok (fun _ => rfl) er2b5 (memo_cons vE1_ok (fun _ => rfl) er2c5 (memo_nil)))))))))))))))))))))))
noncomputable def vM2 : List (FuncId × List (List AV × AV)) := [(5, el2_5), (44, el1_44), (57, el1_57), (80, el1_80)]
noncomputable def vE2 : Env := vE.recall vM2
theorem vE2_ok : EnvOk Tryz.prog vE2 := vE_ok.recall (tab_cons ek2_5 (tab_cons ek1_44 (tab_cons ek1_57 (tab_cons ek1_80 (tab_nil)))))
end Go.Proofs.YtjagieigmleneagGreatDoor.Vm
