/-
  Calls whose results are known: each is shown by a run.
-/
import Derived.Test.YtjagieigmleneakGreatDoorVmT2
set_option maxRecDepth 1000000
set_option maxHeartbeats 0
namespace Go.Proofs.YtjagieigmleneakGreatDoor.Vm
open Go Go.VM Go.Proofs
noncomputable def ea3c0 : List AV := [(.str (bs [108, 101, 116, 32, 102, 32, 97, 32, 61, 32, 105, 102, 32, 97, 32, 116, 104, 101, 110, 32, 98, 32, 101, 108, 115, 101, 32, 99])), (.int .i64 20)]
noncomputable def ev3c0 : AV := (.tup [(.str (bs [108, 101, 116, 32, 102, 32, 97, 32, 61, 10, 32, 32, 105, 102, 32, 97, 32, 116, 104, 101, 110, 32, 98, 32, 101, 108, 115, 101, 32, 99, 10])), (.int .i64 0)])
theorem er3c0 : (kcaller vE2 (fun f => (ktable vE2 vF).get f) 3000).bare 4 ea3c0 (sameAV 1000 ev3c0) = true := by kernel_rfl
noncomputable def ea3c1 : List AV := [(.str (bs [108, 101, 116, 32, 114, 101, 99, 32, 109, 32, 61, 32, 109, 97, 116, 99, 104, 32, 97, 32, 119, 105, 116, 104, 91, 93, 45, 62, 49, 124, 98, 58, 58, 99, 45, 62, 45, 109, 32, 99])), (.int .i64 80)]
noncomputable def ev3c1 : AV := (.tup [(.str (bs [108, 101, 116, 32, 114, 101, 99, 32, 109, 32, 61, 32, 109, 97, 116, 99, 104, 32, 97, 32, 119, 105, 116, 104, 32, 91, 93, 32, 45, 62, 32, 49, 32, 124, 32, 98, 32, 58, 58, 32, 99, 32, 45, 62, 32, 45, 32, 109, 32, 99, 10])), (.int .i64 0)])
theorem er3c1 : (kcaller vE2 (fun f => (ktable vE2 vF).get f) 3000).bare 4 ea3c1 (sameAV 1000 ev3c1) = true := by kernel_rfl
noncomputable def ea3c2 : List AV := [(.str (bs [108, 101, 116, 32, 120, 32, 61, 32, 34, 97, 13, 98, 34])), (.int .i64 80)]
noncomputable def ev3c2 : AV := (.tup [(.str (bs [])), (.int .i64 4)])
theorem er3c2 : (kcaller vE2 (fun f => (ktable vE2 vF).get f) 3000).bare 4 ea3c2 (sameAV 1000 ev3c2) = true := by kernel_rfl
noncomputable def ea3c3 : List AV := [(.str (bs [255])), (.int .i64 80)]
noncomputable def ev3c3 : AV := (.tup [(.str (bs [])), (.int .i64 4)])
theorem er3c3 : (kcaller vE2 (fun f => (ktable vE2 vF).get f) 3000).bare 4 ea3c3 (sameAV 1000 ev3c3) = true := by kernel_rfl
noncomputable def ea3c4 : List AV := [(.str (bs [108, 101, 116, 32, 120, 32, 61, 10, 10, 40, 49, 10, 41, 108, 101, 116, 32, 121, 61, 120])), (.int .i64 20)]
noncomputable def ev3c4 : AV := (.tup [(.str (bs [108, 101, 116, 32, 120, 32, 61, 32, 40, 49, 41, 10, 10, 108, 101, 116, 32, 121, 32, 61, 32, 120, 10])), (.int .i64 0)])
theorem er3c4 : (kcaller vE2 (fun f => (ktable vE2 vF).get f) 3000).bare 4 ea3c4 (sameAV 1000 ev3c4) = true := by kernel_rfl
end Go.Proofs.YtjagieigmleneakGreatDoor.Vm
