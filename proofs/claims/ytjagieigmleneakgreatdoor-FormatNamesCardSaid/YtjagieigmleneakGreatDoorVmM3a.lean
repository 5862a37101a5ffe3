/-
  Calls whose results are known: each is shown by a run.
-/
import Derived.Test.YtjagieigmleneakGreatDoorVmT2
set_option maxRecDepth 1000000
set_option maxHeartbeats 0
namespace Go.Proofs.YtjagieigmleneakGreatDoor.Vm
open Go Go.VM Go.Proofs
noncomputable def ea3a0 : List AV := [(.str (bs [])), (.int .i64 20)]
noncomputable def ev3a0 : AV := (.tup [(.str (bs [])), (.int .i64 0)])
theorem er3a0 : (kcaller vE2 (fun f => (ktable vE2 vF).get f) 3000).bare 4 ea3a0 (sameAV 1000 ev3a0) = true := by kernel_rfl
noncomputable def ea3a1 : List AV := [(.str (bs [108, 101, 116, 32, 102, 32, 97, 32, 61, 32, 105, 102, 32, 97, 32, 116, 104, 101, 110, 32, 98, 32, 101, 108, 115, 101, 32, 99])), (.int .i64 28)]
noncomputable def ev3a1 : AV := (.tup [(.str (bs [108, 101, 116, 32, 102, 32, 97, 32, 61, 32, 105, 102, 32, 97, 32, 116, 104, 101, 110, 32, 98, 32, 101, 108, 115, 101, 32, 99, 10])), (.int .i64 0)])
theorem er3a1 : (kcaller vE2 (fun f => (ktable vE2 vF).get f) 3000).bare 4 ea3a1 (sameAV 1000 ev3a1) = true := by kernel_rfl
noncomputable def ea3a2 : List AV := [(.str (bs [108, 101, 116, 32, 120, 32, 61, 32, 40])), (.int .i64 80)]
noncomputable def ev3a2 : AV := (.tup [(.str (bs [])), (.int .i64 50)])
theorem er3a2 : (kcaller vE2 (fun f => (ktable vE2 vF).get f) 3000).bare 4 ea3a2 (sameAV 1000 ev3a2) = true := by kernel_rfl
noncomputable def ea3a3 : List AV := [(.str (bs [108, 101, 116, 32, 120, 32, 61, 32, 49])), (.int .i64 19)]
noncomputable def ev3a3 : AV := (.tup [(.str (bs [])), (.int .i64 1)])
theorem er3a3 : (kcaller vE2 (fun f => (ktable vE2 vF).get f) 3000).bare 4 ea3a3 (sameAV 1000 ev3a3) = true := by kernel_rfl
noncomputable def ea3a4 : List AV := [(.str (bs [108, 101, 116, 32, 120, 32, 61, 32, 108, 101, 116, 32, 114, 101, 99, 32, 121, 32, 61, 32, 102, 117, 110, 32, 97, 32, 45, 62, 32, 97, 32, 105, 110, 32, 121, 40, 40, 41, 41])), (.int .i64 80)]
noncomputable def ev3a4 : AV := (.tup [(.str (bs [108, 101, 116, 32, 120, 32, 61, 32, 108, 101, 116, 32, 114, 101, 99, 32, 121, 32, 61, 32, 102, 117, 110, 32, 97, 32, 45, 62, 32, 97, 32, 105, 110, 32, 121, 32, 40, 40, 41, 41, 10])), (.int .i64 0)])
theorem er3a4 : (kcaller vE2 (fun f => (ktable vE2 vF).get f) 3000).bare 4 ea3a4 (sameAV 1000 ev3a4) = true := by kernel_rfl
end Go.Proofs.YtjagieigmleneakGreatDoor.Vm
