/-
  Calls whose results are known: each is shown by a run.
-/
import Derived.Test.YtjagieigmleneakGreatDoorVmM3a
import Derived.Test.YtjagieigmleneakGreatDoorVmM3b
import Derived.Test.YtjagieigmleneakGreatDoorVmM3c
set_option maxRecDepth 1000000
set_option maxHeartbeats 0
namespace Go.Proofs.YtjagieigmleneakGreatDoor.Vm
open Go Go.VM Go.Proofs
noncomputable def el3_4 : List (List AV × AV) := [(ea3a0, ev3a0), (ea3b0, ev3b0), (ea3c0, ev3c0), (ea3a1, ev3a1), (ea3b1, ev3b1), (ea3c1, ev3c1), (ea3a2, ev3a2), (ea3b2, ev3b2), (ea3c2, ev3c2), (ea3a3, ev3a3), (ea3b3, ev3b3), (ea3c3, ev3c3), (ea3a4, ev3a4), (ea3b4, ev3b4), (ea3c4, ev3c4)]
theorem ek3_4 : ∀ e, e ∈ el3_4 → BareOk Tryz.prog vE.T vE.G 4 e.1 e.2 := memo_cons vE2_ok (fun _ => rfl) er3a0 (memo_cons vE2_ok (fun _ => rfl) er3b0 (memo_cons vE2_ok (fun _ => rfl) er3c0 (memo_cons vE2_ok (fun _ => rfl) er3a1 (memo_cons vE2_ok (fun _ => rfl) er3b1 (memo_cons vE2_ok (fun _ => rfl) er3c1 (memo_cons vE2_ok (fun _ => rfl) er3a2 (memo_cons vE2_ok (fun _ => rfl) er3b2 (memo_cons vE2_ok (fun _ => rfl) er3c2 (memo_cons vE2_ok (fun _ => rfl) er3a3 (memo_cons vE2_ok (fun _ => rfl) er3b3 (memo_cons vE2_ok (fun _ => rfl) er3c3 (memo_cons vE2_ok (fun _ => rfl) er3a4 (memo_cons vE2_ok (fun _ => rfl) er3b4 (memo_cons vE2_ok (fun _ => rfl) er3c4 (memo_nil)))))))))))))))
noncomputable def vM3 : List (FuncId × List (List AV × AV)) := [(4, el3_4), (8, el2_8), (86, el1_86), (95, el1_95), (139, el1_139)]
noncomputable def vE3 : Env := vE.recall vM3
theorem vE3_ok : EnvOk Tryz.prog vE3 := vE_ok.recall (tab_cons ek3_4 (tab_cons ek2_8 (tab_cons ek1_86 (tab_cons ek1_95 (tab_cons ek1_139 (tab_nil))))))
end Go.Proofs.YtjagieigmleneakGreatDoor.Vm
