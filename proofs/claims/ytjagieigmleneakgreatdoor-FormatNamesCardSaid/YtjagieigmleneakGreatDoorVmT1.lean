/-
  Calls whose results are known: each is shown by a run.
-/
import Derived.Test.YtjagieigmleneakGreatDoorVmM1a
set_option maxRecDepth 1000000
set_option maxHeartbeats 0
namespace Go.Proofs.YtjagieigmleneakGreatDoor.Vm
open Go Go.VM Go.Proofs
noncomputable def el1_86 : List (List AV × AV) := [(ea1a0, ev1a0), (ea1a1, ev1a1), (ea1a2, ev1a2), (ea1a4, ev1a4), (ea1a5, ev1a5)]
theorem ek1_86 : ∀ e, e ∈ el1_86 → BareOk Tryz.prog vE.T vE.G 86 e.1 e.2 := memo_cons vE_ok (fun _ => rfl) er1a0 (memo_cons vE_ok (fun _ => rfl) er1a1 (memo_cons vE_ok (fun _ => rfl) er1a2 (memo_cons vE_ok (fun _ => rfl) er1a4 (memo_cons vE_ok (fun _ => rfl) er1a5 (memo_nil)))))
noncomputable def el1_95 : List (List AV × AV) := [(ea1a3, ev1a3)]
theorem ek1_95 : ∀ e, e ∈ el1_95 → BareOk Tryz.prog vE.T vE.G 95 e.1 e.2 := memo_cons vE_ok (fun _ => rfl) er1a3 (memo_nil)
noncomputable def el1_139 : List (List AV × AV) := [(ea1a6, ev1a6)]
theorem ek1_139 : ∀ e, e ∈ el1_139 → BareOk Tryz.prog vE.T vE.G 139 e.1 e.2 := memo_cons vE_ok (fun _ => rfl) er1a6 (memo_nil)
noncomputable def vM1 : List (FuncId × List (List AV × AV)) := [(86, el1_86), (95, el1_95), (139, el1_139)]
noncomputable def vE1 : Env := vE.recall vM1
theorem vE1_ok : EnvOk Tryz.prog vE1 := vE_ok.recall (tab_cons ek1_86 (tab_cons ek1_95 (tab_cons ek1_139 (tab_nil))))
end Go.Proofs.YtjagieigmleneakGreatDoor.Vm
