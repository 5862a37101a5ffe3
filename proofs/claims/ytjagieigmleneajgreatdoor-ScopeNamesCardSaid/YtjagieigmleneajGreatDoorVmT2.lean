/-
  Calls whose results are known: each is shown by a run.
-/
import Derived.Test.YtjagieigmleneajGreatDoorVmM2a
import Derived.Test.YtjagieigmleneajGreatDoorVmM2b
set_option maxRecDepth 1000000
set_option maxHeartbeats 0
namespace Go.Proofs.YtjagieigmleneajGreatDoor.Vm
open Go Go.VM Go.Proofs
noncomputable def el2_11 : List (List AV × AV) := [(ea2a0, ev2a0), (ea2b0, ev2b0), (ea2a1, ev2a1), (ea2b1, ev2b1), (ea2a2, ev2a2), (ea2b2, ev2b2), (ea2a3, ev2a3), (ea2b3, ev2b3), (ea2a4, ev2a4), (ea2b4, ev2b4), (ea2a5, ev2a5), (ea2b5, ev2b5), (ea2a6, ev2a6), (ea2b6, ev2b6), (ea2a7, ev2a7), (ea2b7, ev2b7), (ea2a8, ev2a8), (ea2b8, ev2b8), (ea2a9, ev2a9), (ea2b9, ev2b9), (ea2a10, ev2a10), (ea2b10, ev2b10)]
theorem ek2_11 : ∀ e, e ∈ el2_11 → BareOk Tryz.prog vE.T vE.G 11 e.1 e.2 := memo_cons vE1_ok (fun _ => rfl) er2a0 (memo_cons vE1_ok (fun _ => rfl) er2b0 (memo_cons vE1_ok (fun _ => rfl) er2a1 (memo_cons vE1_ok (fun _ => rfl) er2b1 (memo_cons vE1_ok (fun _ => rfl) er2a2 (memo_cons vE1_ok (fun _ => rfl) er2b2 (memo_cons vE1_ok (fun _ => rfl) er2a3 (memo_cons vE1_ok (fun _ => rfl) er2b3 (memo_cons vE1_ok (fun _ => rfl) er2a4 (memo_cons vE1_ok (fun _ => rfl) er2b4 (memo_cons vE1_ok (fun _ => rfl) er2a5 (memo_cons vE1_ok (fun _ => rfl) er2b5 (memo_cons vE1_ok (fun _ => rfl) er2a6 (memo_cons vE1_ok (fun _ => rfl) er2b6 (memo_cons vE1_ok (fun _ => rfl) er2a7 (memo_cons vE1_ok (fun _ => rfl) er2b7 (memo_cons vE1_ok (fun _ => rfl) er2a8 (memo_cons vE1_ok (fun _ => rfl) er2b8 (memo_cons vE1_ok (fun _ => rfl) er2a9 (memo_cons vE1_ok (fun _ => rfl) er2b9 (memo_cons vE1_ok (fun _ => rfl) er2a10 (memo_cons vE1_ok (fun _ => rfl) er2b10 (memo_nil))))))))))))))))))))))
noncomputable def vM2 : List (FuncId × List (List AV × AV)) := [(11, el2_11), (77, el1_77), (91, el1_91), (115, el1_115)]
noncomputable def vE2 : Env := vE.recall vM2
theorem vE2_ok : EnvOk Tryz.prog vE2 := vE_ok.recall (tab_cons ek2_11 (tab_cons ek1_77 (tab_cons ek1_91 (tab_cons ek1_115 (tab_nil)))))
end Go.Proofs.YtjagieigmleneajGreatDoor.Vm
