/-
  Calls whose results are known: each is shown by a run.
-/
import Derived.Test.YtjagieigmleneajGreatDoorVmM4a
set_option maxRecDepth 1000000
set_option maxHeartbeats 0
namespace Go.Proofs.YtjagieigmleneajGreatDoor.Vm
open Go Go.VM Go.Proofs
noncomputable def el4_5 : List (List AV × AV) := [(ea4a0, ev4a0), (ea4a1, ev4a1), (ea4a2, ev4a2), (ea4a3, ev4a3), (ea4a4, ev4a4), (ea4a5, ev4a5), (ea4a6, ev4a6), (ea4a7, ev4a7), (ea4a8, ev4a8), (ea4a9, ev4a9), (ea4a10, ev4a10), (ea4a11, ev4a11), (ea4a12, ev4a12), (ea4a13, ev4a13), (ea4a14, ev4a14), (ea4a15, ev4a15), (ea4a16, ev4a16), (ea4a17, ev4a17), (ea4a18, ev4a18), (ea4a19, ev4a19), (ea4a20, ev4a20)]
theorem ek4_5 : ∀ e, e ∈ el4_5 → BareOk Tryz.prog vE.T vE.G 5 e.1 e.2 := memo_cons vE3_ok (fun _ => rfl) er4a0 (memo_cons vE3_ok (fun _ => rfl) er4a1 (memo_cons vE3_ok (fun _ => rfl) er4a2 (memo_cons vE3_ok (fun _ => rfl) er4a3 (memo_cons vE3_ok (fun _ => rfl) er4a4 (memo_cons vE3_ok (fun _ => rfl) er4a5 (memo_cons vE3_ok (fun _ => rfl) er4a6 (memo_cons vE3_ok (fun _ => rfl) er4a7 (memo_cons vE3_ok (fun _ => rfl) er4a8 (memo_cons vE3_ok (fun _ => rfl) er4a9 (memo_cons vE3_ok (fun _ => rfl) er4a10 (memo_cons vE3_ok (fun _ => rfl) er4a11 (memo_cons vE3_ok (fun _ => rfl) er4a12 (memo_cons vE3_ok (fun _ => rfl) er4a13 (memo_cons vE3_ok (fun _ => rfl) er4a14 (memo_cons vE3_ok (fun _ => rfl) er4a15 (memo_cons vE3_ok (fun _ => rfl) er4a16 (memo_cons vE3_ok (fun _ => rfl) er4a17 (memo_cons vE3_ok (fun _ => rfl) er4a18 (memo_cons vE3_ok (fun _ => rfl) er4a19 (memo_cons vE3_ok (fun _ => rfl) er4a20 (memo_nil)))))))))))))))))))))
noncomputable def vM4 : List (FuncId × List (List AV × AV)) := [(5, el4_5), (6, el3_6), (11, el2_11), (77, el1_77), (91, el1_91), (115, el1_115)]
noncomputable def vE4 : Env := vE.recall vM4
theorem vE4_ok : EnvOk Tryz.prog vE4 := vE_ok.recall (tab_cons ek4_5 (tab_cons ek3_6 (tab_cons ek2_11 (tab_cons ek1_77 (tab_cons ek1_91 (tab_cons ek1_115 (tab_nil)))))))
end Go.Proofs.YtjagieigmleneajGreatDoor.Vm
