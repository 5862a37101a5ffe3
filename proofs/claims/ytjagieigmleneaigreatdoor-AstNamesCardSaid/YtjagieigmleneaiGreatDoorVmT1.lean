/-
  Calls whose results are known: each is shown by a run.
-/
import Derived.Test.YtjagieigmleneaiGreatDoorVmM1a
set_option maxRecDepth 1000000
set_option maxHeartbeats 0
namespace Go.Proofs.YtjagieigmleneaiGreatDoor.Vm
open Go Go.VM Go.Proofs
noncomputable def el1_69 : List (List AV × AV) := [(ea1a3, ev1a3)]
theorem ek1_69 : ∀ e, e ∈ el1_69 → BareOk Tryz.prog vE.T vE.G 69 e.1 e.2 := memo_cons vE_ok (fun _ => rfl) er1a3 (memo_nil)
noncomputable def el1_84 : List (List AV × AV) := [(ea1a0, ev1a0), (ea1a1, ev1a1), (ea1a2, ev1a2), (ea1a4, ev1a4), (ea1a5, ev1a5), (ea1a7, ev1a7)]
theorem ek1_84 : ∀ e, e ∈ el1_84 → BareOk Tryz.prog vE.T vE.G 84 e.1 e.2 := memo_cons vE_ok (fun _ => rfl) er1a0 (memo_cons vE_ok (fun _ => rfl) er1a1 (memo_cons vE_ok (fun _ => rfl) er1a2 (memo_cons vE_ok (fun _ => rfl) er1a4 (memo_cons vE_ok (fun _ => rfl) er1a5 (memo_cons vE_ok (fun _ => rfl) er1a7 (memo_nil))))))
noncomputable def el1_108 : List (List AV × AV) := [(ea1a6, ev1a6)]
theorem ek1_108 : ∀ e, e ∈ el1_108 → BareOk Tryz.prog vE.T vE.G 108 e.1 e.2 := memo_cons vE_ok (fun _ => rfl) er1a6 (memo_nil)
noncomputable def vM1 : List (FuncId × List (List AV × AV)) := [(69, el1_69), (84, el1_84), (108, el1_108)]
noncomputable def vE1 : Env := vE.recall vM1
theorem vE1_ok : EnvOk Tryz.prog vE1 := vE_ok.recall (tab_cons ek1_69 (tab_cons ek1_84 (tab_cons ek1_108 (tab_nil))))
end Go.Proofs.YtjagieigmleneaiGreatDoor.Vm
