/-
  Calls whose results are known: each is shown by a run.
-/
import Derived.Test.YtjagieigmleneajGreatDoorVmT3
set_option maxRecDepth 1000000
set_option maxHeartbeats 0
namespace Go.Proofs.YtjagieigmleneajGreatDoor.Vm
open Go Go.VM Go.Proofs
noncomputable def ea4a0 : List AV := [(.str (bs [108, 101, 116, 32, 120, 32, 61, 32, 49, 32, 108, 101, 116, 32, 102, 32, 120, 32, 61, 32, 120, 32, 43, 32, 121])), (.sl 1 [(.int .i64 2), (.int .i64 (-1))] .shut), .nils]
noncomputable def ev4a0 : AV := (.bool true)
theorem er4a0 : (kcaller vE3 (fun f => (ktable vE3 vF).get f) 3000).bare 5 ea4a0 (sameAV 1000 ev4a0) = true := by kernel_rfl
noncomputable def ea4a1 : List AV := [(.str (bs [108, 101, 116, 32, 114, 101, 99, 32, 102, 32, 120, 32, 61, 32, 102, 32, 120])), (.sl 1 [(.int .i64 0), (.int .i64 1)] .shut), .nils]
noncomputable def ev4a1 : AV := (.bool true)
theorem er4a1 : (kcaller vE3 (fun f => (ktable vE3 vF).get f) 3000).bare 5 ea4a1 (sameAV 1000 ev4a1) = true := by kernel_rfl
noncomputable def ea4a2 : List AV := [(.str (bs [108, 101, 116, 32, 102, 32, 120, 32, 61, 32, 102, 32, 120])), (.sl 1 [(.int .i64 (-1)), (.int .i64 1)] .shut), .nils]
noncomputable def ev4a2 : AV := (.bool true)
theorem er4a2 : (kcaller vE3 (fun f => (ktable vE3 vF).get f) 3000).bare 5 ea4a2 (sameAV 1000 ev4a2) = true := by kernel_rfl
noncomputable def ea4a3 : List AV := [(.str (bs [108, 101, 116, 32, 97, 32, 61, 32, 49, 32, 108, 101, 116, 32, 98, 32, 61, 32, 109, 97, 116, 99, 104, 32, 97, 32, 119, 105, 116, 104, 32, 40, 120, 44, 32, 120, 41, 32, 45, 62, 32, 120, 32, 124, 32, 95, 32, 45, 62, 32, 102, 115, 116])), (.sl 1 [(.int .i64 0), (.int .i64 3), (.int .i64 (-2))] .shut), (.sl 1 [(.int .i64 3)] .shut)]
noncomputable def ev4a3 : AV := (.bool true)
theorem er4a3 : (kcaller vE3 (fun f => (ktable vE3 vF).get f) 3000).bare 5 ea4a3 (sameAV 1000 ev4a3) = true := by kernel_rfl
noncomputable def ea4a4 : List AV := [(.str (bs [108, 101, 116, 32, 102, 32, 61, 32, 102, 117, 110, 32, 120, 32, 45, 62, 32, 108, 101, 116, 32, 120, 32, 61, 32, 120, 32, 105, 110, 32, 120])), (.sl 1 [(.int .i64 1), (.int .i64 2)] .shut), .nils]
noncomputable def ev4a4 : AV := (.bool true)
theorem er4a4 : (kcaller vE3 (fun f => (ktable vE3 vF).get f) 3000).bare 5 ea4a4 (sameAV 1000 ev4a4) = true := by kernel_rfl
noncomputable def ea4a5 : List AV := [(.str (bs [108, 101, 116, 32, 120, 32, 61, 32, 120])), (.sl 1 [(.int .i64 (-1))] .shut), .nils]
noncomputable def ev4a5 : AV := (.bool true)
theorem er4a5 : (kcaller vE3 (fun f => (ktable vE3 vF).get f) 3000).bare 5 ea4a5 (sameAV 1000 ev4a5) = true := by kernel_rfl
noncomputable def ea4a6 : List AV := [(.str (bs [108, 101, 116, 32, 114, 101, 99, 32, 120, 32, 61, 32, 120])), (.sl 1 [(.int .i64 0)] .shut), .nils]
noncomputable def ev4a6 : AV := (.bool true)
theorem er4a6 : (kcaller vE3 (fun f => (ktable vE3 vF).get f) 3000).bare 5 ea4a6 (sameAV 1000 ev4a6) = true := by kernel_rfl
noncomputable def ea4a7 : List AV := [(.str (bs [108, 101, 116, 32, 120, 32, 61, 32, 49, 32, 108, 101, 116, 32, 120, 32, 61, 32, 120, 32, 108, 101, 116, 32, 121, 32, 61, 32, 120])), (.sl 1 [(.int .i64 0), (.int .i64 1)] .shut), .nils]
noncomputable def ev4a7 : AV := (.bool true)
theorem er4a7 : (kcaller vE3 (fun f => (ktable vE3 vF).get f) 3000).bare 5 ea4a7 (sameAV 1000 ev4a7) = true := by kernel_rfl
noncomputable def ea4a8 : List AV := [(.str (bs [108, 101, 116, 32, 114, 101, 99, 32, 102, 32, 102, 32, 61, 32, 102])), (.sl 1 [(.int .i64 1)] .shut), .nils]
noncomputable def ev4a8 : AV := (.bool true)
theorem er4a8 : (kcaller vE3 (fun f => (ktable vE3 vF).get f) 3000).bare 5 ea4a8 (sameAV 1000 ev4a8) = true := by kernel_rfl
noncomputable def ea4a9 : List AV := [(.str (bs [108, 101, 116, 32, 40, 97, 44, 32, 98, 41, 32, 61, 32, 49, 32, 108, 101, 116, 32, 99, 32, 61, 32, 97, 32, 98])), (.sl 1 [(.int .i64 0), (.int .i64 1)] .shut), .nils]
noncomputable def ev4a9 : AV := (.bool true)
theorem er4a9 : (kcaller vE3 (fun f => (ktable vE3 vF).get f) 3000).bare 5 ea4a9 (sameAV 1000 ev4a9) = true := by kernel_rfl
noncomputable def ea4a10 : List AV := [(.str (bs [108, 101, 116, 32, 102, 32, 40, 120, 44, 32, 121, 41, 32, 91, 120, 59, 32, 122, 93, 32, 61, 32, 120, 32, 122])), (.sl 1 [(.int .i64 3), (.int .i64 4)] .shut), (.sl 1 [(.int .i64 3)] .shut)]
noncomputable def ev4a10 : AV := (.bool true)
theorem er4a10 : (kcaller vE3 (fun f => (ktable vE3 vF).get f) 3000).bare 5 ea4a10 (sameAV 1000 ev4a10) = true := by kernel_rfl
noncomputable def ea4a11 : List AV := [(.str (bs [108, 101, 116, 32, 102, 32, 61, 32, 102, 117, 110, 32, 120, 32, 120, 32, 45, 62, 32, 120])), (.sl 1 [(.int .i64 2)] .shut), (.sl 1 [(.int .i64 2)] .shut)]
noncomputable def ev4a11 : AV := (.bool true)
theorem er4a11 : (kcaller vE3 (fun f => (ktable vE3 vF).get f) 3000).bare 5 ea4a11 (sameAV 1000 ev4a11) = true := by kernel_rfl
noncomputable def ea4a12 : List AV := [(.str (bs [108, 101, 116, 32, 97, 32, 61, 32, 108, 101, 116, 32, 114, 101, 99, 32, 103, 32, 121, 32, 61, 32, 103, 32, 121, 32, 105, 110, 32, 103, 32, 121])), (.sl 1 [(.int .i64 1), (.int .i64 2), (.int .i64 1), (.int .i64 (-1))] .shut), .nils]
noncomputable def ev4a12 : AV := (.bool true)
theorem er4a12 : (kcaller vE3 (fun f => (ktable vE3 vF).get f) 3000).bare 5 ea4a12 (sameAV 1000 ev4a12) = true := by kernel_rfl
noncomputable def ea4a13 : List AV := [(.str (bs [108, 101, 116, 32, 97, 32, 61, 32, 108, 101, 116, 32, 103, 32, 121, 32, 61, 32, 103, 32, 121, 32, 105, 110, 32, 121])), (.sl 1 [(.int .i64 (-1)), (.int .i64 2), (.int .i64 (-1))] .shut), .nils]
noncomputable def ev4a13 : AV := (.bool true)
theorem er4a13 : (kcaller vE3 (fun f => (ktable vE3 vF).get f) 3000).bare 5 ea4a13 (sameAV 1000 ev4a13) = true := by kernel_rfl
noncomputable def ea4a14 : List AV := [(.str (bs [108, 101, 116, 32, 110, 111, 116, 32, 61, 32, 49, 32, 108, 101, 116, 32, 98, 32, 61, 32, 110, 111, 116, 32, 102, 108, 111, 97, 116, 32, 115, 110, 100])), (.sl 1 [(.int .i64 0), (.int .i64 (-2)), (.int .i64 (-2))] .shut), .nils]
noncomputable def ev4a14 : AV := (.bool true)
theorem er4a14 : (kcaller vE3 (fun f => (ktable vE3 vF).get f) 3000).bare 5 ea4a14 (sameAV 1000 ev4a14) = true := by kernel_rfl
noncomputable def ea4a15 : List AV := [(.str (bs [108, 101, 116, 32, 97, 32, 61, 32, 109, 97, 116, 99, 104, 32, 98, 32, 119, 105, 116, 104, 32, 120, 32, 58, 58, 32, 121, 32, 45, 62, 32, 120, 32, 121, 32, 124, 32, 120, 32, 45, 62, 32, 120, 32, 124, 32, 91, 93, 32, 45, 62, 32, 121])), (.sl 1 [(.int .i64 (-1)), (.int .i64 1), (.int .i64 2), (.int .i64 3), (.int .i64 (-1))] .shut), .nils]
noncomputable def ev4a15 : AV := (.bool true)
theorem er4a15 : (kcaller vE3 (fun f => (ktable vE3 vF).get f) 3000).bare 5 ea4a15 (sameAV 1000 ev4a15) = true := by kernel_rfl
noncomputable def ea4a16 : List AV := [(.str (bs [108, 101, 116, 32, 97, 32, 61, 32, 108, 101, 116, 32, 40, 120, 44, 32, 121, 41, 32, 61, 32, 121, 32, 105, 110, 32, 120, 32, 121])), (.sl 1 [(.int .i64 (-1)), (.int .i64 1), (.int .i64 2)] .shut), .nils]
noncomputable def ev4a16 : AV := (.bool true)
theorem er4a16 : (kcaller vE3 (fun f => (ktable vE3 vF).get f) 3000).bare 5 ea4a16 (sameAV 1000 ev4a16) = true := by kernel_rfl
noncomputable def ea4a17 : List AV := [(.str (bs [108, 101, 116, 32, 102, 32, 120, 32, 61, 32, 102, 117, 110, 32, 121, 32, 45, 62, 32, 120, 32, 121, 32, 108, 101, 116, 32, 103, 32, 61, 32, 120])), (.sl 1 [(.int .i64 1), (.int .i64 2), (.int .i64 (-1))] .shut), .nils]
noncomputable def ev4a17 : AV := (.bool true)
theorem er4a17 : (kcaller vE3 (fun f => (ktable vE3 vF).get f) 3000).bare 5 ea4a17 (sameAV 1000 ev4a17) = true := by kernel_rfl
noncomputable def ea4a18 : List AV := [(.str (bs [108, 101, 116, 32, 97, 32, 61, 32, 105, 102, 32, 97, 32, 116, 104, 101, 110, 32, 98, 32, 101, 108, 115, 101, 32, 99])), (.sl 1 [(.int .i64 (-1)), (.int .i64 (-1)), (.int .i64 (-1))] .shut), .nils]
noncomputable def ev4a18 : AV := (.bool true)
theorem er4a18 : (kcaller vE3 (fun f => (ktable vE3 vF).get f) 3000).bare 5 ea4a18 (sameAV 1000 ev4a18) = true := by kernel_rfl
noncomputable def ea4a19 : List AV := [(.str (bs [108, 101, 116, 32, 102, 32, 120, 32, 61, 32, 109, 97, 116, 99, 104, 32, 120, 32, 119, 105, 116, 104, 32, 120, 32, 45, 62, 32, 120])), (.sl 1 [(.int .i64 1), (.int .i64 2)] .shut), .nils]
noncomputable def ev4a19 : AV := (.bool true)
theorem er4a19 : (kcaller vE3 (fun f => (ktable vE3 vF).get f) 3000).bare 5 ea4a19 (sameAV 1000 ev4a19) = true := by kernel_rfl
noncomputable def ea4a20 : List AV := [(.str (bs [])), .nils, .nils]
noncomputable def ev4a20 : AV := (.bool true)
theorem er4a20 : (kcaller vE3 (fun f => (ktable vE3 vF).get f) 3000).bare 5 ea4a20 (sameAV 1000 ev4a20) = true := by kernel_rfl
end Go.Proofs.YtjagieigmleneajGreatDoor.Vm
