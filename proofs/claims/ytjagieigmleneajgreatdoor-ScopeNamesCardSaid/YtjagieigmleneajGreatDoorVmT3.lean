/-
  Calls whose results are known: each is shown by a run.
-/
import Derived.Test.YtjagieigmleneajGreatDoorVmM3a
set_option maxRecDepth 1000000
set_option maxHeartbeats 0
namespace Go.Proofs.YtjagieigmleneajGreatDoor.Vm
open Go Go.VM Go.Proofs
noncomputable def el3_6 : List (List AV × AV) := [(ea3a0, ev3a0), (ea3a1, ev3a1), (ea3a2, ev3a2), (ea3a3, ev3a3), (ea3a4, ev3a4), (ea3a5, ev3a5), (ea3a6, ev3a6), (ea3a7, ev3a7), (ea3a8, ev3a8), (ea3a9, ev3a9), (ea3a10, ev3a10), (ea3a11, ev3a11), (ea3a12, ev3a12), (ea3a13, ev3a13), (ea3a14, ev3a14), (ea3a15, ev3a15), (ea3a16, ev3a16), (ea3a17, ev3a17), (ea3a18, ev3a18), (ea3a19, ev3a19), (ea3a20, ev3a20), (ea3a21, ev3a21)]
theorem ek3_6 : ∀ e, e ∈ el3_6 → BareOk Tryz.prog vE.T vE.G 6 e.1 e.2 := memo_cons vE2_ok (fun _ => rfl) er3a0 (memo_cons vE2_ok (fun _ => rfl) er3a1 (memo_cons vE2_ok (fun _ => rfl) er3a2 (memo_cons vE2_ok (fun _ => rfl) er3a3 (memo_cons vE2_ok (fun _ => rfl) er3a4 (memo_cons vE2_ok (fun _ => rfl) er3a5 (memo_cons vE2_ok (fun _ => rfl) er3a6 (memo_cons vE2_ok (fun _ => rfl) er3a7 (memo_cons vE2_ok (fun _ => rfl) er3a8 (memo_cons vE2_ok (fun _ => rfl) er3a9 (memo_cons vE2_ok (fun _ => rfl) er3a10 (memo_cons vE2_ok (fun _ => rfl) er3a11 (memo_cons vE2_ok (fun _ => rfl) er3a12 (memo_cons vE2_ok (fun _ => rfl) er3a13 (memo_cons vE2_ok (fun _ => rfl) er3a14 (memo_cons vE2_ok (fun _ => rfl) er3a15 (memo_cons vE2_ok (fun _ => rfl) er3a16 (memo_cons vE2_ok (fun _ => rfl) er3a17 (memo_cons vE2_ok (fun _ => rfl) er3a18 (memo_cons vE2_ok (fun _ => rfl) er3a19 (memo_cons vE2_ok (fun _ => rfl) er3a20 (memo_cons vE2_ok (fun _ => rfl) er3a21 (memo_nil))))))))))))))))))))))
noncomputable def vM3 : List (FuncId × List (List AV × AV)) := [(6, el3_6), (11, el2_11), (77, el1_77), (91, el1_91), (115, el1_115)]
noncomputable def vE3 : Env := vE.recall vM3
theorem vE3_ok : EnvOk Tryz.prog vE3 := vE_ok.recall (tab_cons ek3_6 (tab_cons ek2_11 (tab_cons ek1_77 (tab_cons ek1_91 (tab_cons ek1_115 (tab_nil))))))
end Go.Proofs.YtjagieigmleneajGreatDoor.Vm
