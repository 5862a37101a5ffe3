/-
  Calls whose results are known: each is shown by a run.
-/
import Derived.Test.YtjagieigmleneaiGreatDoorVmT2
set_option maxRecDepth 1000000
set_option maxHeartbeats 0
namespace Go.Proofs.YtjagieigmleneaiGreatDoor.Vm
open Go Go.VM Go.Proofs
noncomputable def ea3b0 : List AV := [(.str (bs [108, 101, 116, 32, 34, 97, 34, 32, 61, 32, 34, 92, 110, 34]))]
noncomputable def ev3b0 : AV := (.tup [(.sl 11 [(.agg [(.int .i64 0), (.int .i64 14), (.bool false), (.sl 6 [(.agg [(.int .u8 17), (.int .u8 4), (.int .i64 4), (.int .i64 7), (.str (bs [97])), .nils])] .wide), (.int .u8 4), (.int .i64 10), (.int .i64 14), (.bool false), (.str (bs [10])), .nils, .nils])] .wide), (.int .i64 0)])
theorem er3b0 : (kcaller vE2 (fun f => (ktable vE2 vF).get f) 3000).bare 4 ea3b0 (sameAV 1000 ev3b0) = true := by kernel_rfl
noncomputable def ea3b1 : List AV := [(.str (bs [255]))]
noncomputable def ev3b1 : AV := (.tup [.nils, (.int .i64 4)])
theorem er3b1 : (kcaller vE2 (fun f => (ktable vE2 vF).get f) 3000).bare 4 ea3b1 (sameAV 1000 ev3b1) = true := by kernel_rfl
noncomputable def ea3b2 : List AV := [(.str (bs [108, 101, 116, 32, 114, 101, 99, 32, 40, 97, 44, 32, 98, 41, 32, 61, 32, 40, 41]))]
noncomputable def ev3b2 : AV := (.tup [(.sl 11 [(.agg [(.int .i64 0), (.int .i64 19), (.bool false), (.sl 6 [(.agg [(.int .u8 18), (.int .u8 0), (.int .i64 8), (.int .i64 14), (.str (bs [])), (.sl 6 [(.agg [(.int .u8 15), (.int .u8 0), (.int .i64 9), (.int .i64 10), (.str (bs [97])), .nils]), (.agg [(.int .u8 15), (.int .u8 0), (.int .i64 12), (.int .i64 13), (.str (bs [98])), .nils])] .wide)])] .wide), (.int .u8 6), (.int .i64 17), (.int .i64 19), (.bool false), (.str (bs [])), .nils, .nils])] .wide), (.int .i64 0)])
theorem er3b2 : (kcaller vE2 (fun f => (ktable vE2 vF).get f) 3000).bare 4 ea3b2 (sameAV 1000 ev3b2) = true := by kernel_rfl
noncomputable def ea3b3 : List AV := [(.str (bs [108, 101, 116, 32, 120, 32, 61, 32, 108, 101, 116, 32, 114, 101, 99, 32, 102, 32, 61, 32, 49, 32, 105, 110, 32, 102]))]
noncomputable def ev3b3 : AV := (.tup [(.sl 11 [(.agg [(.int .i64 0), (.int .i64 26), (.bool false), (.sl 6 [(.agg [(.int .u8 15), (.int .u8 0), (.int .i64 4), (.int .i64 5), (.str (bs [120])), .nils])] .wide), (.int .u8 14), (.int .i64 8), (.int .i64 26), (.bool true), (.str (bs [])), (.sl 6 [(.agg [(.int .u8 15), (.int .u8 0), (.int .i64 16), (.int .i64 17), (.str (bs [102])), .nils])] .wide), (.sl 7 [(.agg [(.int .u8 2), (.int .i64 20), (.int .i64 21), (.bool false), (.str (bs [49])), .nils, .nils]), (.agg [(.int .u8 1), (.int .i64 25), (.int .i64 26), (.bool false), (.str (bs [102])), .nils, .nils])] .wide)])] .wide), (.int .i64 0)])
theorem er3b3 : (kcaller vE2 (fun f => (ktable vE2 vF).get f) 3000).bare 4 ea3b3 (sameAV 1000 ev3b3) = true := by kernel_rfl
noncomputable def ea3b4 : List AV := [(.str (bs [108, 101, 116, 32, 120, 32, 61, 32, 34, 92, 116, 34]))]
noncomputable def ev3b4 : AV := (.tup [(.sl 11 [(.agg [(.int .i64 0), (.int .i64 12), (.bool false), (.sl 6 [(.agg [(.int .u8 15), (.int .u8 0), (.int .i64 4), (.int .i64 5), (.str (bs [120])), .nils])] .wide), (.int .u8 4), (.int .i64 8), (.int .i64 12), (.bool false), (.str (bs [9])), .nils, .nils])] .wide), (.int .i64 0)])
theorem er3b4 : (kcaller vE2 (fun f => (ktable vE2 vF).get f) 3000).bare 4 ea3b4 (sameAV 1000 ev3b4) = true := by kernel_rfl
end Go.Proofs.YtjagieigmleneaiGreatDoor.Vm
