/-
  Calls whose results are known: each is shown by a run.
-/
import Derived.Test.YtjagieigmleneakGreatDoorVmT2
set_option maxRecDepth 1000000
set_option maxHeartbeats 0
namespace Go.Proofs.YtjagieigmleneakGreatDoor.Vm
open Go Go.VM Go.Proofs
noncomputable def ea3b0 : List AV := [(.str (bs [108, 101, 116, 32, 102, 32, 97, 32, 61, 32, 105, 102, 32, 97, 32, 116, 104, 101, 110, 32, 98, 32, 101, 108, 115, 101, 32, 99, 99])), (.int .i64 20)]
noncomputable def ev3b0 : AV := (.tup [(.str (bs [108, 101, 116, 32, 102, 32, 97, 32, 61, 10, 32, 32, 105, 102, 32, 97, 10, 32, 32, 116, 104, 101, 110, 32, 98, 10, 32, 32, 101, 108, 115, 101, 32, 99, 99, 10])), (.int .i64 0)])
theorem er3b0 : (kcaller vE2 (fun f => (ktable vE2 vF).get f) 3000).bare 4 ea3b0 (sameAV 1000 ev3b0) = true := by kernel_rfl
noncomputable def ea3b1 : List AV := [(.str (bs [40, 42, 32, 97, 32, 42, 41, 32, 108, 101, 116, 32, 120, 61, 49, 40, 42, 98, 42, 41, 108, 101, 116, 32, 121, 61, 40, 50, 44, 91, 51, 59, 52, 93, 41, 40, 42, 32, 99, 32, 42, 41, 40, 42, 32, 100, 32, 42, 41])), (.int .i64 80)]
noncomputable def ev3b1 : AV := (.tup [(.str (bs [40, 42, 32, 97, 32, 42, 41, 32, 108, 101, 116, 32, 120, 32, 61, 32, 49, 10, 10, 40, 42, 98, 42, 41, 32, 108, 101, 116, 32, 121, 32, 61, 32, 40, 50, 44, 32, 91, 51, 59, 32, 52, 93, 41, 10, 10, 40, 42, 32, 99, 32, 42, 41, 10, 10, 40, 42, 32, 100, 32, 42, 41, 10])), (.int .i64 0)])
theorem er3b1 : (kcaller vE2 (fun f => (ktable vE2 vF).get f) 3000).bare 4 ea3b1 (sameAV 1000 ev3b1) = true := by kernel_rfl
noncomputable def ea3b2 : List AV := [(.str (bs [108, 101, 116, 32, 120, 32, 61, 32, 40, 42, 32, 97, 10, 32, 42, 41, 32, 49])), (.int .i64 80)]
noncomputable def ev3b2 : AV := (.tup [(.str (bs [])), (.int .i64 4)])
theorem er3b2 : (kcaller vE2 (fun f => (ktable vE2 vF).get f) 3000).bare 4 ea3b2 (sameAV 1000 ev3b2) = true := by kernel_rfl
noncomputable def ea3b3 : List AV := [(.str (bs [108, 101, 116, 32, 120, 32, 61, 32, 49])), (.int .i64 201)]
noncomputable def ev3b3 : AV := (.tup [(.str (bs [])), (.int .i64 1)])
theorem er3b3 : (kcaller vE2 (fun f => (ktable vE2 vF).get f) 3000).bare 4 ea3b3 (sameAV 1000 ev3b3) = true := by kernel_rfl
noncomputable def ea3b4 : List AV := [(.str (bs [108, 101, 116, 32, 32, 32, 120, 61, 49])), (.int .i64 80)]
noncomputable def ev3b4 : AV := (.tup [(.str (bs [108, 101, 116, 32, 120, 32, 61, 32, 49, 10])), (.int .i64 0)])
theorem er3b4 : (kcaller vE2 (fun f => (ktable vE2 vF).get f) 3000).bare 4 ea3b4 (sameAV 1000 ev3b4) = true := by kernel_rfl
end Go.Proofs.YtjagieigmleneakGreatDoor.Vm
