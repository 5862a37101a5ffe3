/-
  Calls whose results are known: each is shown by a run.
-/
import Derived.Test.YtjagieigmleneajGreatDoorVmM1a
set_option maxRecDepth 1000000
set_option maxHeartbeats 0
namespace Go.Proofs.YtjagieigmleneajGreatDoor.Vm
open Go Go.VM Go.Proofs
noncomputable def el1_77 : List (List AV × AV) := [(ea1a3, ev1a3)]
theorem ek1_77 : ∀ e, e ∈ el1_77 → BareOk Tryz.prog vE.T vE.G 77 e.1 e.2 := memo_cons vE_ok (fun _ => rfl) er1a3 (memo_nil)
noncomputable def el1_91 : List (List AV × AV) := [(ea1a0, ev1a0), (ea1a1, ev1a1), (ea1a2, ev1a2), (ea1a4, ev1a4), (ea1a5, ev1a5)]
theorem ek1_91 : ∀ e, e ∈ el1_91 → BareOk Tryz.prog vE.T vE.G 91 e.1 e.2 := memo_cons vE_ok (fun _ => rfl) er1a0 (memo_cons vE_ok (fun _ => rfl) er1a1 (memo_cons vE_ok (fun _ => rfl) er1a2 (memo_cons vE_ok (fun _ => rfl) er1a4 (memo_cons vE_ok (fun _ => rfl) er1a5 (memo_nil)))))
noncomputable def el1_115 : List (List AV × AV) := [(ea1a6, ev1a6)]
theorem ek1_115 : ∀ e, e ∈ el1_115 → BareOk Tryz.prog vE.T vE.G 115 e.1 e.2 := memo_cons vE_ok (fun _ => rfl) er1a6 (memo_nil)
noncomputable def vM1 : List (FuncId × List (List AV × AV)) := [(77, el1_77), (91, el1_91), (115, el1_115)]
noncomputable def vE1 : Env := vE.recall vM1
theorem vE1_ok : EnvOk Tryz.prog vE1 := vE_ok.recall (tab_cons ek1_77 (tab_cons ek1_91 (tab_cons ek1_115 (tab_nil))))
end Go.Proofs.YtjagieigmleneajGreatDoor.Vm
