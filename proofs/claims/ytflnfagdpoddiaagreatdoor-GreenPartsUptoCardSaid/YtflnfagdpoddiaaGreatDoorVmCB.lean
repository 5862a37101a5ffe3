/-
  (A part of the proof: Env, F, LexA, LexB, LexC, LexD, LexE.)
-/
import Derived.Test.YtflnfagdpoddiaaGreatDoorVmBC
import Derived.Test.YtflnfagdpoddiaaGreatDoorVmBJ
import Derived.Test.YtflnfagdpoddiaaGreatDoorVmCA
import Derived.Test.YtflnfagdpoddiaaGreatDoorVmBG
import Derived.Test.YtflnfagdpoddiaaGreatDoorVmBE
import Derived.Test.YtflnfagdpoddiaaGreatDoorVmAI
import Derived.Test.YtflnfagdpoddiaaGreatDoorVmBF
import Derived.Test.YtflnfagdpoddiaaGreatDoorRows
import Derived.KernelRfl
set_option maxRecDepth 1000000
set_option maxHeartbeats 0
namespace Go.Proofs.YtflnfagdpoddiaaGreatDoor.Vm
open Go Go.VM Go.Proofs
noncomputable def vT : TT := (.node none (.node (some ⟨.func, 1, 8, [.nilfn], false, false⟩) (.node (some ⟨(.int .i64), 1, 8, [(.int .i64 (0))], false, false⟩) (.node (some ⟨(.struct [(0, 2), (1, 3), (2, 4), (3, 6)]), 4, 24, [(.int .i64 (0)), (.int .i64 (0)), (.bool false), (.int .u8 (0))], true, true⟩) (.node (some ⟨(.ptr 185), 1, 8, [.nilp], false, false⟩) (.node (some ⟨(.slice 23), 1, 24, [.nils], false, false⟩) (.node none (.node (some ⟨.func, 1, 8, [.nilfn], false, false⟩) .leaf .leaf) (.node (some ⟨(.int .u8), 1, 1, [(.int .u8 (0))], false, false⟩) .leaf .leaf)) (.node none (.node (some ⟨.func, 1, 8, [.nilfn], false, false⟩) .leaf .leaf) (.node none .leaf .leaf))) (.node (some ⟨.func, 1, 8, [.nilfn], false, false⟩) (.node (some ⟨.func, 1, 8, [.nilfn], false, false⟩) (.node (some ⟨.func, 1, 8, [.nilfn], false, false⟩) .leaf .leaf) (.node none .leaf .leaf)) (.node (some ⟨(.arr 256 5), 256, 256, [(.int .u8 (0)), (.int .u8 (0)), (.int .u8 (0)), (.int .u8 (0)), (.int .u8 (0)), (.int .u8 (0)), (.int .u8 (0)), (.int .u8 (0)), (.int .u8 (0)), (.int .u8 (0)), (.int .u8 (0)), (.int .u8 (0)), (.int .u8 (0)), (.int .u8 (0)), (.int .u8 (0)), (.int .u8 (0)), (.int .u8 (0)), (.int .u8 (0)), (.int .u8 (0)), (.int .u8 (0)), (.int .u8 (0)), (.int .u8 (0)), (.int .u8 (0)), (.int .u8 (0)), (.int .u8 (0)), (.int .u8 (0)), (.int .u8 (0)), (.int .u8 (0)), (.int .u8 (0)), (.int .u8 (0)), (.int .u8 (0)), (.int .u8 (0)), (.int .u8 (0)), (.int .u8 (0)), (.int .u8 (0)), (.int .u8 (0)), (.int .u8 (0)), (.int .u8 (0)), (.int .u8 (0)), (.int .u8 (0)), (.int .u8 (0)), (.int .u8 (0)), (.int .u8 (0)), (.int .u8 (0)), (.int .u8 (0)), (.int .u8 (0)), (.int .u8 (0)), (.int .u8 (0)), (.int .u8 (0)), (.int .u8 (0)), (.int .u8 (0)), (.int .u8 (0)), (.int .u8 (0)), (.int .u8 (0)), (.int .u8 (0)), (.int .u8 (0)), (.int .u8 (0)), (.int .u8 (0)), (.int .u8 (0)), (.int .u8 (0)), (.int .u8 (0)), (.int .u8 (0)), (.int .u8 (0)), (.int .u8 (0)), (.int .u8 (0)), (.int .u8 (0)), (.int .u8 (0)), (.int .u8 (0)), (.int .u8 (0)), (.int .u8 (0)), (.int .u8 (0)), (.int .u8 (0)), (.int .u8 (0)), (.int .u8 (0)), (.int .u8 (0)), (.int .u8 (0)), (.int .u8 (0)), (.int .u8 (0)), (.int .u8 (0)), (.int .u8 (0)), (.int .u8 (0)), (.int .u8 (0)), (.int .u8 (0)), (.int .u8 (0)), (.int .u8 (0)), (.int .u8 (0)), (.int .u8 (0)), (.int .u8 (0)), (.int .u8 (0)), (.int .u8 (0)), (.int .u8 (0)), (.int .u8 (0)), (.int .u8 (0)), (.int .u8 (0)), (.int .u8 (0)), (.int .u8 (0)), (.int .u8 (0)), (.int .u8 (0)), (.int .u8 (0)), (.int .u8 (0)), (.int .u8 (0)), (.int .u8 (0)), (.int .u8 (0)), (.int .u8 (0)), (.int .u8 (0)), (.int .u8 (0)), (.int .u8 (0)), (.int .u8 (0)), (.int .u8 (0)), (.int .u8 (0)), (.int .u8 (0)), (.int .u8 (0)), (.int .u8 (0)), (.int .u8 (0)), (.int .u8 (0)), (.int .u8 (0)), (.int .u8 (0)), (.int .u8 (0)), (.int .u8 (0)), (.int .u8 (0)), (.int .u8 (0)), (.int .u8 (0)), (.int .u8 (0)), (.int .u8 (0)), (.int .u8 (0)), (.int .u8 (0)), (.int .u8 (0)), (.int .u8 (0)), (.int .u8 (0)), (.int .u8 (0)), (.int .u8 (0)), (.int .u8 (0)), (.int .u8 (0)), (.int .u8 (0)), (.int .u8 (0)), (.int .u8 (0)), (.int .u8 (0)), (.int .u8 (0)), (.int .u8 (0)), (.int .u8 (0)), (.int .u8 (0)), (.int .u8 (0)), (.int .u8 (0)), (.int .u8 (0)), (.int .u8 (0)), (.int .u8 (0)), (.int .u8 (0)), (.int .u8 (0)), (.int .u8 (0)), (.int .u8 (0)), (.int .u8 (0)), (.int .u8 (0)), (.int .u8 (0)), (.int .u8 (0)), (.int .u8 (0)), (.int .u8 (0)), (.int .u8 (0)), (.int .u8 (0)), (.int .u8 (0)), (.int .u8 (0)), (.int .u8 (0)), (.int .u8 (0)), (.int .u8 (0)), (.int .u8 (0)), (.int .u8 (0)), (.int .u8 (0)), (.int .u8 (0)), (.int .u8 (0)), (.int .u8 (0)), (.int .u8 (0)), (.int .u8 (0)), (.int .u8 (0)), (.int .u8 (0)), (.int .u8 (0)), (.int .u8 (0)), (.int .u8 (0)), (.int .u8 (0)), (.int .u8 (0)), (.int .u8 (0)), (.int .u8 (0)), (.int .u8 (0)), (.int .u8 (0)), (.int .u8 (0)), (.int .u8 (0)), (.int .u8 (0)), (.int .u8 (0)), (.int .u8 (0)), (.int .u8 (0)), (.int .u8 (0)), (.int .u8 (0)), (.int .u8 (0)), (.int .u8 (0)), (.int .u8 (0)), (.int .u8 (0)), (.int .u8 (0)), (.int .u8 (0)), (.int .u8 (0)), (.int .u8 (0)), (.int .u8 (0)), (.int .u8 (0)), (.int .u8 (0)), (.int .u8 (0)), (.int .u8 (0)), (.int .u8 (0)), (.int .u8 (0)), (.int .u8 (0)), (.int .u8 (0)), (.int .u8 (0)), (.int .u8 (0)), (.int .u8 (0)), (.int .u8 (0)), (.int .u8 (0)), (.int .u8 (0)), (.int .u8 (0)), (.int .u8 (0)), (.int .u8 (0)), (.int .u8 (0)), (.int .u8 (0)), (.int .u8 (0)), (.int .u8 (0)), (.int .u8 (0)), (.int .u8 (0)), (.int .u8 (0)), (.int .u8 (0)), (.int .u8 (0)), (.int .u8 (0)), (.int .u8 (0)), (.int .u8 (0)), (.int .u8 (0)), (.int .u8 (0)), (.int .u8 (0)), (.int .u8 (0)), (.int .u8 (0)), (.int .u8 (0)), (.int .u8 (0)), (.int .u8 (0)), (.int .u8 (0)), (.int .u8 (0)), (.int .u8 (0)), (.int .u8 (0)), (.int .u8 (0)), (.int .u8 (0)), (.int .u8 (0)), (.int .u8 (0)), (.int .u8 (0)), (.int .u8 (0)), (.int .u8 (0)), (.int .u8 (0)), (.int .u8 (0)), (.int .u8 (0)), (.int .u8 (0)), (.int .u8 (0)), (.int .u8 (0)), (.int .u8 (0)), (.int .u8 (0)), (.int .u8 (0))], true, false⟩) (.node (some ⟨.func, 1, 8, [.nilfn], false, false⟩) .leaf .leaf) (.node none .leaf .leaf)))) (.node (some ⟨(.struct [(0, 5), (1, 9)]), 2, 24, [(.int .u8 (0)), (.str [])], true, true⟩) (.node (some ⟨.func, 1, 8, [.nilfn], false, false⟩) (.node (some ⟨(.ptr 74), 1, 8, [.nilp], false, false⟩) (.node (some ⟨(.ptr 149), 1, 8, [.nilp], false, false⟩) .leaf .leaf) (.node none .leaf .leaf)) (.node (some ⟨.func, 1, 8, [.nilfn], false, false⟩) (.node (some ⟨.func, 1, 8, [.nilfn], false, false⟩) .leaf .leaf) (.node none .leaf .leaf))) (.node (some ⟨.func, 1, 8, [.nilfn], false, false⟩) (.node none (.node (some ⟨.func, 1, 8, [.nilfn], false, false⟩) .leaf .leaf) (.node none .leaf .leaf)) (.node (some ⟨.func, 1, 8, [.nilfn], false, false⟩) (.node (some ⟨(.arr 64 5), 64, 64, [(.int .u8 (0)), (.int .u8 (0)), (.int .u8 (0)), (.int .u8 (0)), (.int .u8 (0)), (.int .u8 (0)), (.int .u8 (0)), (.int .u8 (0)), (.int .u8 (0)), (.int .u8 (0)), (.int .u8 (0)), (.int .u8 (0)), (.int .u8 (0)), (.int .u8 (0)), (.int .u8 (0)), (.int .u8 (0)), (.int .u8 (0)), (.int .u8 (0)), (.int .u8 (0)), (.int .u8 (0)), (.int .u8 (0)), (.int .u8 (0)), (.int .u8 (0)), (.int .u8 (0)), (.int .u8 (0)), (.int .u8 (0)), (.int .u8 (0)), (.int .u8 (0)), (.int .u8 (0)), (.int .u8 (0)), (.int .u8 (0)), (.int .u8 (0)), (.int .u8 (0)), (.int .u8 (0)), (.int .u8 (0)), (.int .u8 (0)), (.int .u8 (0)), (.int .u8 (0)), (.int .u8 (0)), (.int .u8 (0)), (.int .u8 (0)), (.int .u8 (0)), (.int .u8 (0)), (.int .u8 (0)), (.int .u8 (0)), (.int .u8 (0)), (.int .u8 (0)), (.int .u8 (0)), (.int .u8 (0)), (.int .u8 (0)), (.int .u8 (0)), (.int .u8 (0)), (.int .u8 (0)), (.int .u8 (0)), (.int .u8 (0)), (.int .u8 (0)), (.int .u8 (0)), (.int .u8 (0)), (.int .u8 (0)), (.int .u8 (0)), (.int .u8 (0)), (.int .u8 (0)), (.int .u8 (0)), (.int .u8 (0))], true, false⟩) .leaf .leaf) (.node none .leaf .leaf))))) (.node (some ⟨.str, 1, 16, [(.str [])], false, false⟩) (.node (some ⟨(.struct [(0, 17)]), 1, 8, [.nilp], true, false⟩) (.node (some ⟨.func, 1, 8, [.nilfn], false, false⟩) (.node (some ⟨.func, 1, 8, [.nilfn], false, false⟩) (.node (some ⟨.func, 1, 8, [.nilfn], false, false⟩) .leaf .leaf) (.node (some ⟨(.struct [(0, 12), (1, 12), (2, 142), (3, 190), (4, 5), (5, 5), (6, 191), (7, 192), (8, 89), (9, 193), (10, 194)]), 11, 48, [(.int .u64 (0)), (.int .u64 (0)), (.int .u32 (0)), (.int .u8 (0)), (.int .u8 (0)), (.int .u8 (0)), (.int .u8 (0)), .nilfn, .nilp, (.int .i32 (0)), (.int .i32 (0))], true, false⟩) .leaf .leaf)) (.node (some ⟨.func, 1, 8, [.nilfn], false, false⟩) (.node (some ⟨.func, 1, 8, [.nilfn], false, false⟩) .leaf .leaf) (.node none .leaf .leaf))) (.node (some ⟨(.struct [(0, 26), (4, 33)]), 5, 64, [(.int .u8 (0)), (.int .u8 (0)), (.str []), .nils, (.int .i64 (0))], true, true⟩) (.node (some ⟨.func, 1, 8, [.nilfn], false, false⟩) (.node (some ⟨.func, 1, 8, [.nilfn], false, false⟩) .leaf .leaf) (.node none .leaf .leaf)) (.node (some ⟨(.int .u64), 1, 8, [(.int .u64 (0))], false, false⟩) (.node (some ⟨.func, 1, 8, [.nilfn], false, false⟩) .leaf .leaf) (.node none .leaf .leaf)))) (.node (some ⟨.func, 1, 8, [.nilfn], false, false⟩) (.node (some ⟨.func, 1, 8, [.nilfn], false, false⟩) (.node (some ⟨(.iface false), 1, 16, [.nili], false, false⟩) (.node (some ⟨(.slice 141), 1, 24, [.nils], false, false⟩) .leaf .leaf) (.node none .leaf .leaf)) (.node (some ⟨(.slice 9), 1, 24, [.nils], false, false⟩) (.node (some ⟨(.arr 24 5), 24, 24, [(.int .u8 (0)), (.int .u8 (0)), (.int .u8 (0)), (.int .u8 (0)), (.int .u8 (0)), (.int .u8 (0)), (.int .u8 (0)), (.int .u8 (0)), (.int .u8 (0)), (.int .u8 (0)), (.int .u8 (0)), (.int .u8 (0)), (.int .u8 (0)), (.int .u8 (0)), (.int .u8 (0)), (.int .u8 (0)), (.int .u8 (0)), (.int .u8 (0)), (.int .u8 (0)), (.int .u8 (0)), (.int .u8 (0)), (.int .u8 (0)), (.int .u8 (0)), (.int .u8 (0))], true, false⟩) .leaf .leaf) (.node none .leaf .leaf))) (.node (some ⟨.func, 1, 8, [.nilfn], false, false⟩) (.node (some ⟨.func, 1, 8, [.nilfn], false, false⟩) (.node (some ⟨(.struct [(0, 152), (1, 153), (2, 3)]), 3, 56, [.nils, .nils, (.int .i64 (0))], true, true⟩) .leaf .leaf) (.node none .leaf .leaf)) (.node (some ⟨.func, 1, 8, [.nilfn], false, false⟩) (.node (some ⟨(.struct [(0, 186)]), 0, 0, [], true, false⟩) .leaf .leaf) (.node none .leaf .leaf)))))) (.node (some ⟨(.int .u8), 1, 1, [(.int .u8 (0))], false, false⟩) (.node (some ⟨.str, 1, 16, [(.str [])], false, false⟩) (.node (some ⟨(.ptr 196), 1, 8, [.nilp], false, false⟩) (.node (some ⟨(.int .i64), 1, 8, [(.int .i64 (0))], false, false⟩) (.node (some ⟨.func, 1, 8, [.nilfn], false, false⟩) (.node (some ⟨(.ptr 125), 1, 8, [.nilp], false, false⟩) .leaf .leaf) (.node (some ⟨(.int .i32), 1, 4, [(.int .i32 (0))], false, false⟩) .leaf .leaf)) (.node (some ⟨.func, 1, 8, [.nilfn], false, false⟩) (.node (some ⟨(.struct [(0, 142), (1, 142), (2, 142)]), 3, 12, [(.int .u32 (0)), (.int .u32 (0)), (.int .u32 (0))], true, true⟩) .leaf .leaf) (.node none .leaf .leaf))) (.node (some ⟨.func, 1, 8, [.nilfn], false, false⟩) (.node (some ⟨.func, 1, 8, [.nilfn], false, false⟩) (.node none .leaf .leaf) (.node none .leaf .leaf)) (.node (some ⟨(.struct [(0, 5), (1, 5)]), 2, 2, [(.int .u8 (0)), (.int .u8 (0))], true, true⟩) (.node (some ⟨(.arr 20 122), 20, 160, [(.int .u64 (0)), (.int .u64 (0)), (.int .u64 (0)), (.int .u64 (0)), (.int .u64 (0)), (.int .u64 (0)), (.int .u64 (0)), (.int .u64 (0)), (.int .u64 (0)), (.int .u64 (0)), (.int .u64 (0)), (.int .u64 (0)), (.int .u64 (0)), (.int .u64 (0)), (.int .u64 (0)), (.int .u64 (0)), (.int .u64 (0)), (.int .u64 (0)), (.int .u64 (0)), (.int .u64 (0))], true, false⟩) .leaf .leaf) (.node none .leaf .leaf)))) (.node (some ⟨(.struct [(0, 5), (1, 23), (3, 24)]), 4, 56, [(.int .u8 (0)), (.int .u8 (0)), (.str []), .nils], true, true⟩) (.node (some ⟨(.struct [(0, 3), (1, 3)]), 2, 16, [(.int .i64 (0)), (.int .i64 (0))], true, true⟩) (.node (some ⟨(.struct [(0, 71), (1, 72)]), 2, 32, [.nilp, .nils], true, true⟩) (.node (some ⟨.func, 1, 8, [.nilfn], false, false⟩) .leaf .leaf) (.node none .leaf .leaf)) (.node none (.node (some ⟨(.ptr 161), 1, 8, [.nilp], false, false⟩) .leaf .leaf) (.node none .leaf .leaf))) (.node (some ⟨.func, 1, 8, [.nilfn], false, false⟩) (.node (some ⟨(.ptr 5), 1, 8, [.nilp], false, false⟩) (.node (some ⟨(.slice 161), 1, 24, [.nils], false, false⟩) .leaf .leaf) (.node none .leaf .leaf)) (.node (some ⟨.func, 1, 8, [.nilfn], false, false⟩) (.node (some ⟨(.struct [(0, 17), (1, 17), (2, 17), (3, 9)]), 4, 40, [.nilp, .nilp, .nilp, (.str [])], true, false⟩) .leaf .leaf) (.node none .leaf .leaf))))) (.node (some ⟨(.struct [(0, 9), (1, 12)]), 2, 24, [(.str []), (.int .u64 (0))], true, false⟩) (.node (some ⟨(.int .i32), 1, 4, [(.int .i32 (0))], false, false⟩) (.node (some ⟨.func, 1, 8, [.nilfn], false, false⟩) (.node (some ⟨.func, 1, 8, [.nilfn], false, false⟩) (.node none .leaf .leaf) (.node none .leaf .leaf)) (.node (some ⟨.func, 1, 8, [.nilfn], false, false⟩) (.node (some ⟨(.struct [(0, 9)]), 1, 16, [(.str [])], true, true⟩) .leaf .leaf) (.node none .leaf .leaf))) (.node (some ⟨(.slice 51), 1, 24, [.nils], false, false⟩) (.node (some ⟨(.slice 86), 1, 24, [.nils], false, false⟩) (.node (some ⟨(.struct [(0, 9), (1, 9), (2, 76)]), 3, 48, [(.str []), (.str []), .nili], true, false⟩) .leaf .leaf) (.node none .leaf .leaf)) (.node (some ⟨.func, 1, 8, [.nilfn], false, false⟩) (.node (some ⟨.func, 1, 8, [.nilfn], false, false⟩) .leaf .leaf) (.node none .leaf .leaf)))) (.node (some ⟨.func, 1, 8, [.nilfn], false, false⟩) (.node none (.node none (.node (some ⟨(.struct [(0, 3), (1, 3)]), 2, 16, [(.int .i64 (0)), (.int .i64 (0))], true, true⟩) .leaf .leaf) (.node none .leaf .leaf)) (.node (some ⟨.func, 1, 8, [.nilfn], false, false⟩) (.node (some ⟨.func, 1, 8, [.nilfn], false, false⟩) .leaf .leaf) (.node none .leaf .leaf))) (.node (some ⟨.func, 1, 8, [.nilfn], false, false⟩) (.node (some ⟨.func, 1, 8, [.nilfn], false, false⟩) (.node (some ⟨(.struct [(0, 156), (1, 156), (2, 156)]), 3, 6, [(.int .u16 (0)), (.int .u16 (0)), (.int .u16 (0))], true, true⟩) .leaf .leaf) (.node none .leaf .leaf)) (.node (some ⟨(.arr 256 4), 256, 256, [(.bool false), (.bool false), (.bool false), (.bool false), (.bool false), (.bool false), (.bool false), (.bool false), (.bool false), (.bool false), (.bool false), (.bool false), (.bool false), (.bool false), (.bool false), (.bool false), (.bool false), (.bool false), (.bool false), (.bool false), (.bool false), (.bool false), (.bool false), (.bool false), (.bool false), (.bool false), (.bool false), (.bool false), (.bool false), (.bool false), (.bool false), (.bool false), (.bool false), (.bool false), (.bool false), (.bool false), (.bool false), (.bool false), (.bool false), (.bool false), (.bool false), (.bool false), (.bool false), (.bool false), (.bool false), (.bool false), (.bool false), (.bool false), (.bool false), (.bool false), (.bool false), (.bool false), (.bool false), (.bool false), (.bool false), (.bool false), (.bool false), (.bool false), (.bool false), (.bool false), (.bool false), (.bool false), (.bool false), (.bool false), (.bool false), (.bool false), (.bool false), (.bool false), (.bool false), (.bool false), (.bool false), (.bool false), (.bool false), (.bool false), (.bool false), (.bool false), (.bool false), (.bool false), (.bool false), (.bool false), (.bool false), (.bool false), (.bool false), (.bool false), (.bool false), (.bool false), (.bool false), (.bool false), (.bool false), (.bool false), (.bool false), (.bool false), (.bool false), (.bool false), (.bool false), (.bool false), (.bool false), (.bool false), (.bool false), (.bool false), (.bool false), (.bool false), (.bool false), (.bool false), (.bool false), (.bool false), (.bool false), (.bool false), (.bool false), (.bool false), (.bool false), (.bool false), (.bool false), (.bool false), (.bool false), (.bool false), (.bool false), (.bool false), (.bool false), (.bool false), (.bool false), (.bool false), (.bool false), (.bool false), (.bool false), (.bool false), (.bool false), (.bool false), (.bool false), (.bool false), (.bool false), (.bool false), (.bool false), (.bool false), (.bool false), (.bool false), (.bool false), (.bool false), (.bool false), (.bool false), (.bool false), (.bool false), (.bool false), (.bool false), (.bool false), (.bool false), (.bool false), (.bool false), (.bool false), (.bool false), (.bool false), (.bool false), (.bool false), (.bool false), (.bool false), (.bool false), (.bool false), (.bool false), (.bool false), (.bool false), (.bool false), (.bool false), (.bool false), (.bool false), (.bool false), (.bool false), (.bool false), (.bool false), (.bool false), (.bool false), (.bool false), (.bool false), (.bool false), (.bool false), (.bool false), (.bool false), (.bool false), (.bool false), (.bool false), (.bool false), (.bool false), (.bool false), (.bool false), (.bool false), (.bool false), (.bool false), (.bool false), (.bool false), (.bool false), (.bool false), (.bool false), (.bool false), (.bool false), (.bool false), (.bool false), (.bool false), (.bool false), (.bool false), (.bool false), (.bool false), (.bool false), (.bool false), (.bool false), (.bool false), (.bool false), (.bool false), (.bool false), (.bool false), (.bool false), (.bool false), (.bool false), (.bool false), (.bool false), (.bool false), (.bool false), (.bool false), (.bool false), (.bool false), (.bool false), (.bool false), (.bool false), (.bool false), (.bool false), (.bool false), (.bool false), (.bool false), (.bool false), (.bool false), (.bool false), (.bool false), (.bool false), (.bool false), (.bool false), (.bool false), (.bool false), (.bool false), (.bool false), (.bool false), (.bool false), (.bool false), (.bool false), (.bool false), (.bool false), (.bool false), (.bool false), (.bool false), (.bool false), (.bool false), (.bool false), (.bool false), (.bool false), (.bool false), (.bool false), (.bool false), (.bool false), (.bool false)], true, false⟩) (.node (some ⟨.func, 1, 8, [.nilfn], false, false⟩) .leaf .leaf) (.node none .leaf .leaf))))))) (.node (some ⟨(.int .i64), 1, 8, [(.int .i64 (0))], false, false⟩) (.node (some ⟨.bool, 1, 1, [(.bool false)], false, false⟩) (.node (some ⟨(.struct [(0, 2), (1, 3), (2, 4), (3, 6)]), 4, 24, [(.int .i64 (0)), (.int .i64 (0)), (.bool false), (.int .u8 (0))], true, true⟩) (.node (some ⟨(.ptr 188), 1, 8, [.nilp], false, false⟩) (.node (some ⟨.func, 1, 8, [.nilfn], false, false⟩) (.node (some ⟨.func, 1, 8, [.nilfn], false, false⟩) (.node (some ⟨.func, 1, 8, [.nilfn], false, false⟩) .leaf .leaf) (.node (some ⟨.func, 1, 8, [.nilfn], false, false⟩) .leaf .leaf)) (.node (some ⟨(.map 9 5), 1, 8, [.nilm], false, false⟩) (.node (some ⟨(.struct [(0, 142), (1, 142), (2, 142)]), 3, 12, [(.int .u32 (0)), (.int .u32 (0)), (.int .u32 (0))], true, true⟩) .leaf .leaf) (.node none .leaf .leaf))) (.node (some ⟨.func, 1, 8, [.nilfn], false, false⟩) (.node (some ⟨.func, 1, 8, [.nilfn], false, false⟩) (.node (some ⟨(.ptr 155), 1, 8, [.nilp], false, false⟩) .leaf .leaf) (.node none .leaf .leaf)) (.node (some ⟨(.struct [(0, 5), (1, 5)]), 2, 2, [(.int .u8 (0)), (.int .u8 (0))], true, true⟩) (.node (some ⟨.func, 1, 8, [.nilfn], false, false⟩) .leaf .leaf) (.node none .leaf .leaf)))) (.node (some ⟨(.slice 26), 1, 24, [.nils], false, false⟩) (.node (some ⟨(.struct [(0, 3), (1, 3)]), 2, 16, [(.int .i64 (0)), (.int .i64 (0))], true, true⟩) (.node (some ⟨(.slice 5), 1, 24, [.nils], false, false⟩) (.node (some ⟨.func, 1, 8, [.nilfn], false, false⟩) .leaf .leaf) (.node none .leaf .leaf)) (.node (some ⟨.func, 1, 8, [.nilfn], false, false⟩) (.node (some ⟨(.ptr 158), 1, 8, [.nilp], false, false⟩) .leaf .leaf) (.node none .leaf .leaf))) (.node (some ⟨.func, 1, 8, [.nilfn], false, false⟩) (.node (some ⟨.func, 1, 8, [.nilfn], false, false⟩) (.node (some ⟨(.slice 158), 1, 24, [.nils], false, false⟩) .leaf .leaf) (.node none .leaf .leaf)) (.node (some ⟨.func, 1, 8, [.nilfn], false, false⟩) (.node (some ⟨(.struct [(0, 17), (1, 17), (2, 17), (3, 9)]), 4, 40, [.nilp, .nilp, .nilp, (.str [])], true, false⟩) .leaf .leaf) (.node none .leaf .leaf))))) (.node (some ⟨(.int .u64), 1, 8, [(.int .u64 (0))], false, false⟩) (.node (some ⟨(.iface true), 1, 16, [.nili], false, false⟩) (.node (some ⟨(.slice 3), 1, 24, [.nils], false, false⟩) (.node (some ⟨.func, 1, 8, [.nilfn], false, false⟩) (.node (some ⟨(.int .i64), 1, 8, [(.int .i64 (0))], false, false⟩) .leaf .leaf) (.node (some ⟨(.struct [(0, 12), (1, 12), (2, 142), (3, 190), (4, 5), (5, 5), (6, 191), (7, 192), (8, 89), (9, 193), (10, 194)]), 11, 48, [(.int .u64 (0)), (.int .u64 (0)), (.int .u32 (0)), (.int .u8 (0)), (.int .u8 (0)), (.int .u8 (0)), (.int .u8 (0)), .nilfn, .nilp, (.int .i32 (0)), (.int .i32 (0))], true, false⟩) .leaf .leaf)) (.node none (.node (some ⟨(.ptr 166), 1, 8, [.nilp], false, false⟩) .leaf .leaf) (.node none .leaf .leaf))) (.node (some ⟨.func, 1, 8, [.nilfn], false, false⟩) (.node (some ⟨.func, 1, 8, [.nilfn], false, false⟩) (.node (some ⟨(.struct [(0, 9), (1, 9), (2, 76)]), 3, 48, [(.str []), (.str []), .nili], true, false⟩) .leaf .leaf) (.node none .leaf .leaf)) (.node (some ⟨.func, 1, 8, [.nilfn], false, false⟩) (.node (some ⟨.func, 1, 8, [.nilfn], false, false⟩) .leaf .leaf) (.node none .leaf .leaf)))) (.node (some ⟨.func, 1, 8, [.nilfn], false, false⟩) (.node (some ⟨.func, 1, 8, [.nilfn], false, false⟩) (.node (some ⟨(.iface false), 1, 16, [.nili], false, false⟩) (.node (some ⟨(.struct [(0, 3), (1, 3)]), 2, 16, [(.int .i64 (0)), (.int .i64 (0))], true, true⟩) .leaf .leaf) (.node none .leaf .leaf)) (.node (some ⟨.uptr, 1, 8, [.nilp], false, false⟩) (.node (some ⟨.func, 1, 8, [.nilfn], false, false⟩) .leaf .leaf) (.node none .leaf .leaf))) (.node (some ⟨.func, 1, 8, [.nilfn], false, false⟩) (.node (some ⟨.func, 1, 8, [.nilfn], false, false⟩) (.node (some ⟨(.int .u16), 1, 2, [(.int .u16 (0))], false, false⟩) .leaf .leaf) (.node none .leaf .leaf)) (.node (some ⟨(.arr 256 4), 256, 256, [(.bool false), (.bool false), (.bool false), (.bool false), (.bool false), (.bool false), (.bool false), (.bool false), (.bool false), (.bool false), (.bool false), (.bool false), (.bool false), (.bool false), (.bool false), (.bool false), (.bool false), (.bool false), (.bool false), (.bool false), (.bool false), (.bool false), (.bool false), (.bool false), (.bool false), (.bool false), (.bool false), (.bool false), (.bool false), (.bool false), (.bool false), (.bool false), (.bool false), (.bool false), (.bool false), (.bool false), (.bool false), (.bool false), (.bool false), (.bool false), (.bool false), (.bool false), (.bool false), (.bool false), (.bool false), (.bool false), (.bool false), (.bool false), (.bool false), (.bool false), (.bool false), (.bool false), (.bool false), (.bool false), (.bool false), (.bool false), (.bool false), (.bool false), (.bool false), (.bool false), (.bool false), (.bool false), (.bool false), (.bool false), (.bool false), (.bool false), (.bool false), (.bool false), (.bool false), (.bool false), (.bool false), (.bool false), (.bool false), (.bool false), (.bool false), (.bool false), (.bool false), (.bool false), (.bool false), (.bool false), (.bool false), (.bool false), (.bool false), (.bool false), (.bool false), (.bool false), (.bool false), (.bool false), (.bool false), (.bool false), (.bool false), (.bool false), (.bool false), (.bool false), (.bool false), (.bool false), (.bool false), (.bool false), (.bool false), (.bool false), (.bool false), (.bool false), (.bool false), (.bool false), (.bool false), (.bool false), (.bool false), (.bool false), (.bool false), (.bool false), (.bool false), (.bool false), (.bool false), (.bool false), (.bool false), (.bool false), (.bool false), (.bool false), (.bool false), (.bool false), (.bool false), (.bool false), (.bool false), (.bool false), (.bool false), (.bool false), (.bool false), (.bool false), (.bool false), (.bool false), (.bool false), (.bool false), (.bool false), (.bool false), (.bool false), (.bool false), (.bool false), (.bool false), (.bool false), (.bool false), (.bool false), (.bool false), (.bool false), (.bool false), (.bool false), (.bool false), (.bool false), (.bool false), (.bool false), (.bool false), (.bool false), (.bool false), (.bool false), (.bool false), (.bool false), (.bool false), (.bool false), (.bool false), (.bool false), (.bool false), (.bool false), (.bool false), (.bool false), (.bool false), (.bool false), (.bool false), (.bool false), (.bool false), (.bool false), (.bool false), (.bool false), (.bool false), (.bool false), (.bool false), (.bool false), (.bool false), (.bool false), (.bool false), (.bool false), (.bool false), (.bool false), (.bool false), (.bool false), (.bool false), (.bool false), (.bool false), (.bool false), (.bool false), (.bool false), (.bool false), (.bool false), (.bool false), (.bool false), (.bool false), (.bool false), (.bool false), (.bool false), (.bool false), (.bool false), (.bool false), (.bool false), (.bool false), (.bool false), (.bool false), (.bool false), (.bool false), (.bool false), (.bool false), (.bool false), (.bool false), (.bool false), (.bool false), (.bool false), (.bool false), (.bool false), (.bool false), (.bool false), (.bool false), (.bool false), (.bool false), (.bool false), (.bool false), (.bool false), (.bool false), (.bool false), (.bool false), (.bool false), (.bool false), (.bool false), (.bool false), (.bool false), (.bool false), (.bool false), (.bool false), (.bool false), (.bool false), (.bool false), (.bool false), (.bool false), (.bool false), (.bool false), (.bool false), (.bool false), (.bool false), (.bool false), (.bool false), (.bool false), (.bool false), (.bool false), (.bool false), (.bool false), (.bool false), (.bool false), (.bool false), (.bool false), (.bool false)], true, false⟩) (.node (some ⟨(.struct [(0, 186)]), 0, 0, [], true, false⟩) .leaf .leaf) (.node none .leaf .leaf)))))) (.node (some ⟨(.int .u8), 1, 1, [(.int .u8 (0))], false, false⟩) (.node (some ⟨.str, 1, 16, [(.str [])], false, false⟩) (.node (some ⟨(.struct [(0, 17)]), 1, 8, [.nilp], true, false⟩) (.node (some ⟨.func, 1, 8, [.nilfn], false, false⟩) (.node none (.node (some ⟨.func, 1, 8, [.nilfn], false, false⟩) .leaf .leaf) (.node (some ⟨(.int .i32), 1, 4, [(.int .i32 (0))], false, false⟩) .leaf .leaf)) (.node (some ⟨.func, 1, 8, [.nilfn], false, false⟩) (.node (some ⟨.func, 1, 8, [.nilfn], false, false⟩) .leaf .leaf) (.node none .leaf .leaf))) (.node (some ⟨.func, 1, 8, [.nilfn], false, false⟩) (.node (some ⟨.func, 1, 8, [.nilfn], false, false⟩) (.node (some ⟨.func, 1, 8, [.nilfn], false, false⟩) .leaf .leaf) (.node none .leaf .leaf)) (.node (some ⟨(.arr 16 113), 32, 32, [(.int .u8 (0)), (.int .u8 (0)), (.int .u8 (0)), (.int .u8 (0)), (.int .u8 (0)), (.int .u8 (0)), (.int .u8 (0)), (.int .u8 (0)), (.int .u8 (0)), (.int .u8 (0)), (.int .u8 (0)), (.int .u8 (0)), (.int .u8 (0)), (.int .u8 (0)), (.int .u8 (0)), (.int .u8 (0)), (.int .u8 (0)), (.int .u8 (0)), (.int .u8 (0)), (.int .u8 (0)), (.int .u8 (0)), (.int .u8 (0)), (.int .u8 (0)), (.int .u8 (0)), (.int .u8 (0)), (.int .u8 (0)), (.int .u8 (0)), (.int .u8 (0)), (.int .u8 (0)), (.int .u8 (0)), (.int .u8 (0)), (.int .u8 (0))], true, false⟩) (.node (some ⟨(.arr 65 5), 65, 65, [(.int .u8 (0)), (.int .u8 (0)), (.int .u8 (0)), (.int .u8 (0)), (.int .u8 (0)), (.int .u8 (0)), (.int .u8 (0)), (.int .u8 (0)), (.int .u8 (0)), (.int .u8 (0)), (.int .u8 (0)), (.int .u8 (0)), (.int .u8 (0)), (.int .u8 (0)), (.int .u8 (0)), (.int .u8 (0)), (.int .u8 (0)), (.int .u8 (0)), (.int .u8 (0)), (.int .u8 (0)), (.int .u8 (0)), (.int .u8 (0)), (.int .u8 (0)), (.int .u8 (0)), (.int .u8 (0)), (.int .u8 (0)), (.int .u8 (0)), (.int .u8 (0)), (.int .u8 (0)), (.int .u8 (0)), (.int .u8 (0)), (.int .u8 (0)), (.int .u8 (0)), (.int .u8 (0)), (.int .u8 (0)), (.int .u8 (0)), (.int .u8 (0)), (.int .u8 (0)), (.int .u8 (0)), (.int .u8 (0)), (.int .u8 (0)), (.int .u8 (0)), (.int .u8 (0)), (.int .u8 (0)), (.int .u8 (0)), (.int .u8 (0)), (.int .u8 (0)), (.int .u8 (0)), (.int .u8 (0)), (.int .u8 (0)), (.int .u8 (0)), (.int .u8 (0)), (.int .u8 (0)), (.int .u8 (0)), (.int .u8 (0)), (.int .u8 (0)), (.int .u8 (0)), (.int .u8 (0)), (.int .u8 (0)), (.int .u8 (0)), (.int .u8 (0)), (.int .u8 (0)), (.int .u8 (0)), (.int .u8 (0)), (.int .u8 (0))], true, false⟩) .leaf .leaf) (.node none .leaf .leaf)))) (.node (some ⟨(.struct [(0, 5), (1, 23), (3, 24)]), 4, 56, [(.int .u8 (0)), (.int .u8 (0)), (.str []), .nils], true, true⟩) (.node none (.node (some ⟨(.struct [(0, 71), (1, 72)]), 2, 32, [.nilp, .nils], true, true⟩) (.node (some ⟨.func, 1, 8, [.nilfn], false, false⟩) .leaf .leaf) (.node none .leaf .leaf)) (.node (some ⟨.func, 1, 8, [.nilfn], false, false⟩) (.node (some ⟨.func, 1, 8, [.nilfn], false, false⟩) .leaf .leaf) (.node none .leaf .leaf))) (.node (some ⟨.func, 1, 8, [.nilfn], false, false⟩) (.node none (.node (some ⟨(.struct [(0, 152), (1, 153), (2, 3)]), 3, 56, [.nils, .nils, (.int .i64 (0))], true, true⟩) .leaf .leaf) (.node none .leaf .leaf)) (.node (some ⟨(.int .u64), 1, 8, [(.int .u64 (0))], false, false⟩) (.node (some ⟨(.arr 0 16), 0, 0, [], true, false⟩) .leaf .leaf) (.node none .leaf .leaf))))) (.node (some ⟨(.struct [(0, 9), (1, 12)]), 2, 24, [(.str []), (.int .u64 (0))], true, false⟩) (.node (some ⟨(.struct [(0, 5), (1, 9)]), 2, 24, [(.int .u8 (0)), (.str [])], true, true⟩) (.node none (.node (some ⟨.func, 1, 8, [.nilfn], false, false⟩) (.node (some ⟨.func, 1, 8, [.nilfn], false, false⟩) .leaf .leaf) (.node none .leaf .leaf)) (.node (some ⟨.func, 1, 8, [.nilfn], false, false⟩) (.node (some ⟨(.struct [(0, 9)]), 1, 16, [(.str [])], true, true⟩) .leaf .leaf) (.node none .leaf .leaf))) (.node (some ⟨.func, 1, 8, [.nilfn], false, false⟩) (.node (some ⟨.func, 1, 8, [.nilfn], false, false⟩) (.node (some ⟨.func, 1, 8, [.nilfn], false, false⟩) .leaf .leaf) (.node none .leaf .leaf)) (.node none (.node (some ⟨(.arr 32 5), 32, 32, [(.int .u8 (0)), (.int .u8 (0)), (.int .u8 (0)), (.int .u8 (0)), (.int .u8 (0)), (.int .u8 (0)), (.int .u8 (0)), (.int .u8 (0)), (.int .u8 (0)), (.int .u8 (0)), (.int .u8 (0)), (.int .u8 (0)), (.int .u8 (0)), (.int .u8 (0)), (.int .u8 (0)), (.int .u8 (0)), (.int .u8 (0)), (.int .u8 (0)), (.int .u8 (0)), (.int .u8 (0)), (.int .u8 (0)), (.int .u8 (0)), (.int .u8 (0)), (.int .u8 (0)), (.int .u8 (0)), (.int .u8 (0)), (.int .u8 (0)), (.int .u8 (0)), (.int .u8 (0)), (.int .u8 (0)), (.int .u8 (0)), (.int .u8 (0))], true, false⟩) .leaf .leaf) (.node none .leaf .leaf)))) (.node (some ⟨.func, 1, 8, [.nilfn], false, false⟩) (.node (some ⟨.func, 1, 8, [.nilfn], false, false⟩) (.node (some ⟨.func, 1, 8, [.nilfn], false, false⟩) (.node (some ⟨(.int .u32), 1, 4, [(.int .u32 (0))], false, false⟩) .leaf .leaf) (.node none .leaf .leaf)) (.node (some ⟨.func, 1, 8, [.nilfn], false, false⟩) (.node none .leaf .leaf) (.node none .leaf .leaf))) (.node (some ⟨.func, 1, 8, [.nilfn], false, false⟩) (.node (some ⟨.func, 1, 8, [.nilfn], false, false⟩) (.node (some ⟨(.struct [(0, 156), (1, 156), (2, 156)]), 3, 6, [(.int .u16 (0)), (.int .u16 (0)), (.int .u16 (0))], true, true⟩) .leaf .leaf) (.node none .leaf .leaf)) (.node none (.node (some ⟨(.int .u8), 1, 1, [(.int .u8 (0))], false, false⟩) .leaf .leaf) (.node none .leaf .leaf))))))))
theorem vT_ok : TOk Tryz.prog vT := tt_ok (d := 8) (by kernel_rfl)
noncomputable def vF : Tr Func := (.node none (.node none (.node (some Tryz.f3) (.node (some Tryz.f7) (.node (some Tryz.f15) (.node (some Tryz.f31) (.node (some Tryz.f63) (.node none .leaf .leaf) .leaf) (.node (some Tryz.f95) (.node none .leaf .leaf) .leaf)) (.node (some Tryz.f47) (.node (some Tryz.f79) (.node none .leaf .leaf) .leaf) (.node none (.node none .leaf .leaf) .leaf))) (.node (some Tryz.f23) (.node (some Tryz.f39) (.node (some Tryz.f71) (.node none .leaf .leaf) .leaf) (.node none (.node none .leaf .leaf) .leaf)) (.node (some Tryz.f55) (.node (some Tryz.f87) (.node none .leaf .leaf) .leaf) (.node none .leaf .leaf)))) (.node (some Tryz.f11) (.node (some Tryz.f19) (.node (some Tryz.f35) (.node (some Tryz.f67) (.node none .leaf .leaf) .leaf) (.node (some Tryz.f99) (.node none .leaf .leaf) .leaf)) (.node (some Tryz.f51) (.node (some Tryz.f83) (.node none .leaf .leaf) .leaf) (.node none .leaf .leaf))) (.node (some Tryz.f27) (.node (some Tryz.f43) (.node (some Tryz.f75) (.node none .leaf .leaf) .leaf) (.node none (.node none .leaf .leaf) .leaf)) (.node (some Tryz.f59) (.node (some Tryz.f91) (.node none .leaf .leaf) .leaf) (.node none .leaf .leaf))))) (.node (some Tryz.f5) (.node (some Tryz.f9) (.node (some Tryz.f17) (.node (some Tryz.f33) (.node none (.node none .leaf .leaf) .leaf) (.node none (.node none .leaf .leaf) .leaf)) (.node (some Tryz.f49) (.node (some Tryz.f81) (.node none .leaf .leaf) .leaf) (.node none .leaf .leaf))) (.node (some Tryz.f25) (.node (some Tryz.f41) (.node (some Tryz.f73) (.node none .leaf .leaf) .leaf) (.node none (.node none .leaf .leaf) .leaf)) (.node (some Tryz.f57) (.node none (.node none .leaf .leaf) .leaf) (.node none .leaf .leaf)))) (.node (some Tryz.f13) (.node (some Tryz.f21) (.node (some Tryz.f37) (.node (some Tryz.f69) (.node none .leaf .leaf) .leaf) (.node none (.node none .leaf .leaf) .leaf)) (.node (some Tryz.f53) (.node (some Tryz.f85) (.node none .leaf .leaf) .leaf) (.node none .leaf .leaf))) (.node (some Tryz.f29) (.node none (.node (some Tryz.f77) (.node none .leaf .leaf) .leaf) (.node none (.node none .leaf .leaf) .leaf)) (.node (some Tryz.f61) (.node none (.node none .leaf .leaf) .leaf) (.node none .leaf .leaf)))))) (.node none (.node (some Tryz.f4) (.node (some Tryz.f8) (.node (some Tryz.f16) (.node (some Tryz.f32) (.node (some Tryz.f64) (.node none .leaf .leaf) .leaf) (.node (some Tryz.f96) (.node none .leaf .leaf) .leaf)) (.node (some Tryz.f48) (.node (some Tryz.f80) (.node none .leaf .leaf) .leaf) (.node none (.node none .leaf .leaf) .leaf))) (.node (some Tryz.f24) (.node (some Tryz.f40) (.node none (.node none .leaf .leaf) .leaf) (.node none (.node none .leaf .leaf) .leaf)) (.node (some Tryz.f56) (.node none (.node none .leaf .leaf) .leaf) (.node none .leaf .leaf)))) (.node (some Tryz.f12) (.node (some Tryz.f20) (.node (some Tryz.f36) (.node none (.node none .leaf .leaf) .leaf) (.node none (.node none .leaf .leaf) .leaf)) (.node (some Tryz.f52) (.node (some Tryz.f84) (.node none .leaf .leaf) .leaf) (.node none .leaf .leaf))) (.node (some Tryz.f28) (.node (some Tryz.f44) (.node (some Tryz.f76) (.node none .leaf .leaf) .leaf) (.node none (.node none .leaf .leaf) .leaf)) (.node (some Tryz.f60) (.node (some Tryz.f92) (.node none .leaf .leaf) .leaf) (.node none .leaf .leaf))))) (.node (some Tryz.f6) (.node (some Tryz.f10) (.node (some Tryz.f18) (.node (some Tryz.f34) (.node (some Tryz.f66) (.node none .leaf .leaf) .leaf) (.node (some Tryz.f98) (.node none .leaf .leaf) .leaf)) (.node (some Tryz.f50) (.node (some Tryz.f82) (.node none .leaf .leaf) .leaf) (.node none .leaf .leaf))) (.node (some Tryz.f26) (.node (some Tryz.f42) (.node (some Tryz.f74) (.node none .leaf .leaf) .leaf) (.node none (.node none .leaf .leaf) .leaf)) (.node (some Tryz.f58) (.node none (.node none .leaf .leaf) .leaf) (.node none .leaf .leaf)))) (.node (some Tryz.f14) (.node (some Tryz.f22) (.node (some Tryz.f38) (.node (some Tryz.f70) (.node none .leaf .leaf) .leaf) (.node none (.node none .leaf .leaf) .leaf)) (.node (some Tryz.f54) (.node (some Tryz.f86) (.node none .leaf .leaf) .leaf) (.node none .leaf .leaf))) (.node (some Tryz.f30) (.node (some Tryz.f46) (.node (some Tryz.f78) (.node none .leaf .leaf) .leaf) (.node none (.node none .leaf .leaf) .leaf)) (.node (some Tryz.f62) (.node none (.node none .leaf .leaf) .leaf) (.node none .leaf .leaf)))))))
theorem vF_ok : Tr.Every (FnOk Tryz.prog) vF := (Tr.every_node noFn (Tr.every_node noFn (Tr.every_node (fnOk Tryz.func3 Tryz.call3 (by kernel_rfl)) (Tr.every_node (fnOk Tryz.func7 Tryz.call7 (by kernel_rfl)) (Tr.every_node (fnOk Tryz.func15 Tryz.call15 (by kernel_rfl)) (Tr.every_node (fnOk Tryz.func31 Tryz.call31 (by kernel_rfl)) (Tr.every_node (fnOk Tryz.func63 Tryz.call63 (by kernel_rfl)) (Tr.every_node noFn Tr.every_leaf Tr.every_leaf) Tr.every_leaf) (Tr.every_node (fnOk Tryz.func95 Tryz.call95 (by kernel_rfl)) (Tr.every_node noFn Tr.every_leaf Tr.every_leaf) Tr.every_leaf)) (Tr.every_node (fnOk Tryz.func47 Tryz.call47 (by kernel_rfl)) (Tr.every_node (fnOk Tryz.func79 Tryz.call79 (by kernel_rfl)) (Tr.every_node noFn Tr.every_leaf Tr.every_leaf) Tr.every_leaf) (Tr.every_node noFn (Tr.every_node noFn Tr.every_leaf Tr.every_leaf) Tr.every_leaf))) (Tr.every_node (fnOk Tryz.func23 Tryz.call23 (by kernel_rfl)) (Tr.every_node (fnOk Tryz.func39 Tryz.call39 (by kernel_rfl)) (Tr.every_node (fnOk Tryz.func71 Tryz.call71 (by kernel_rfl)) (Tr.every_node noFn Tr.every_leaf Tr.every_leaf) Tr.every_leaf) (Tr.every_node noFn (Tr.every_node noFn Tr.every_leaf Tr.every_leaf) Tr.every_leaf)) (Tr.every_node (fnOk Tryz.func55 Tryz.call55 (by kernel_rfl)) (Tr.every_node (fnOk Tryz.func87 Tryz.call87 (by kernel_rfl)) (Tr.every_node noFn Tr.every_leaf Tr.every_leaf) Tr.every_leaf) (Tr.every_node noFn Tr.every_leaf Tr.every_leaf)))) (Tr.every_node (fnOk Tryz.func11 Tryz.call11 (by kernel_rfl)) (Tr.every_node (fnOk Tryz.func19 Tryz.call19 (by kernel_rfl)) (Tr.every_node (fnOk Tryz.func35 Tryz.call35 (by kernel_rfl)) (Tr.every_node (fnOk Tryz.func67 Tryz.call67 (by kernel_rfl)) (Tr.every_node noFn Tr.every_leaf Tr.every_leaf) Tr.every_leaf) (Tr.every_node (fnOk Tryz.func99 Tryz.call99 (by kernel_rfl)) (Tr.every_node noFn Tr.every_leaf Tr.every_leaf) Tr.every_leaf)) (Tr.every_node (fnOk Tryz.func51 Tryz.call51 (by kernel_rfl)) (Tr.every_node (fnOk Tryz.func83 Tryz.call83 (by kernel_rfl)) (Tr.every_node noFn Tr.every_leaf Tr.every_leaf) Tr.every_leaf) (Tr.every_node noFn Tr.every_leaf Tr.every_leaf))) (Tr.every_node (fnOk Tryz.func27 Tryz.call27 (by kernel_rfl)) (Tr.every_node (fnOk Tryz.func43 Tryz.call43 (by kernel_rfl)) (Tr.every_node (fnOk Tryz.func75 Tryz.call75 (by kernel_rfl)) (Tr.every_node noFn Tr.every_leaf Tr.every_leaf) Tr.every_leaf) (Tr.every_node noFn (Tr.every_node noFn Tr.every_leaf Tr.every_leaf) Tr.every_leaf)) (Tr.every_node (fnOk Tryz.func59 Tryz.call59 (by kernel_rfl)) (Tr.every_node (fnOk Tryz.func91 Tryz.call91 (by kernel_rfl)) (Tr.every_node noFn Tr.every_leaf Tr.every_leaf) Tr.every_leaf) (Tr.every_node noFn Tr.every_leaf Tr.every_leaf))))) (Tr.every_node (fnOk Tryz.func5 Tryz.call5 (by kernel_rfl)) (Tr.every_node (fnOk Tryz.func9 Tryz.call9 (by kernel_rfl)) (Tr.every_node (fnOk Tryz.func17 Tryz.call17 (by kernel_rfl)) (Tr.every_node (fnOk Tryz.func33 Tryz.call33 (by kernel_rfl)) (Tr.every_node noFn (Tr.every_node noFn Tr.every_leaf Tr.every_leaf) Tr.every_leaf) (Tr.every_node noFn (Tr.every_node noFn Tr.every_leaf Tr.every_leaf) Tr.every_leaf)) (Tr.every_node (fnOk Tryz.func49 Tryz.call49 (by kernel_rfl)) (Tr.every_node (fnOk Tryz.func81 Tryz.call81 (by kernel_rfl)) (Tr.every_node noFn Tr.every_leaf Tr.every_leaf) Tr.every_leaf) (Tr.every_node noFn Tr.every_leaf Tr.every_leaf))) (Tr.every_node (fnOk Tryz.func25 Tryz.call25 (by kernel_rfl)) (Tr.every_node (fnOk Tryz.func41 Tryz.call41 (by kernel_rfl)) (Tr.every_node (fnOk Tryz.func73 Tryz.call73 (by kernel_rfl)) (Tr.every_node noFn Tr.every_leaf Tr.every_leaf) Tr.every_leaf) (Tr.every_node noFn (Tr.every_node noFn Tr.every_leaf Tr.every_leaf) Tr.every_leaf)) (Tr.every_node (fnOk Tryz.func57 Tryz.call57 (by kernel_rfl)) (Tr.every_node noFn (Tr.every_node noFn Tr.every_leaf Tr.every_leaf) Tr.every_leaf) (Tr.every_node noFn Tr.every_leaf Tr.every_leaf)))) (Tr.every_node (fnOk Tryz.func13 Tryz.call13 (by kernel_rfl)) (Tr.every_node (fnOk Tryz.func21 Tryz.call21 (by kernel_rfl)) (Tr.every_node (fnOk Tryz.func37 Tryz.call37 (by kernel_rfl)) (Tr.every_node (fnOk Tryz.func69 Tryz.call69 (by kernel_rfl)) (Tr.every_node noFn Tr.every_leaf Tr.every_leaf) Tr.every_leaf) (Tr.every_node noFn (Tr.every_node noFn Tr.every_leaf Tr.every_leaf) Tr.every_leaf)) (Tr.every_node (fnOk Tryz.func53 Tryz.call53 (by kernel_rfl)) (Tr.every_node (fnOk Tryz.func85 Tryz.call85 (by kernel_rfl)) (Tr.every_node noFn Tr.every_leaf Tr.every_leaf) Tr.every_leaf) (Tr.every_node noFn Tr.every_leaf Tr.every_leaf))) (Tr.every_node (fnOk Tryz.func29 Tryz.call29 (by kernel_rfl)) (Tr.every_node noFn (Tr.every_node (fnOk Tryz.func77 Tryz.call77 (by kernel_rfl)) (Tr.every_node noFn Tr.every_leaf Tr.every_leaf) Tr.every_leaf) (Tr.every_node noFn (Tr.every_node noFn Tr.every_leaf Tr.every_leaf) Tr.every_leaf)) (Tr.every_node (fnOk Tryz.func61 Tryz.call61 (by kernel_rfl)) (Tr.every_node noFn (Tr.every_node noFn Tr.every_leaf Tr.every_leaf) Tr.every_leaf) (Tr.every_node noFn Tr.every_leaf Tr.every_leaf)))))) (Tr.every_node noFn (Tr.every_node (fnOk Tryz.func4 Tryz.call4 (by kernel_rfl)) (Tr.every_node (fnOk Tryz.func8 Tryz.call8 (by kernel_rfl)) (Tr.every_node (fnOk Tryz.func16 Tryz.call16 (by kernel_rfl)) (Tr.every_node (fnOk Tryz.func32 Tryz.call32 (by kernel_rfl)) (Tr.every_node (fnOk Tryz.func64 Tryz.call64 (by kernel_rfl)) (Tr.every_node noFn Tr.every_leaf Tr.every_leaf) Tr.every_leaf) (Tr.every_node (fnOk Tryz.func96 Tryz.call96 (by kernel_rfl)) (Tr.every_node noFn Tr.every_leaf Tr.every_leaf) Tr.every_leaf)) (Tr.every_node (fnOk Tryz.func48 Tryz.call48 (by kernel_rfl)) (Tr.every_node (fnOk Tryz.func80 Tryz.call80 (by kernel_rfl)) (Tr.every_node noFn Tr.every_leaf Tr.every_leaf) Tr.every_leaf) (Tr.every_node noFn (Tr.every_node noFn Tr.every_leaf Tr.every_leaf) Tr.every_leaf))) (Tr.every_node (fnOk Tryz.func24 Tryz.call24 (by kernel_rfl)) (Tr.every_node (fnOk Tryz.func40 Tryz.call40 (by kernel_rfl)) (Tr.every_node noFn (Tr.every_node noFn Tr.every_leaf Tr.every_leaf) Tr.every_leaf) (Tr.every_node noFn (Tr.every_node noFn Tr.every_leaf Tr.every_leaf) Tr.every_leaf)) (Tr.every_node (fnOk Tryz.func56 Tryz.call56 (by kernel_rfl)) (Tr.every_node noFn (Tr.every_node noFn Tr.every_leaf Tr.every_leaf) Tr.every_leaf) (Tr.every_node noFn Tr.every_leaf Tr.every_leaf)))) (Tr.every_node (fnOk Tryz.func12 Tryz.call12 (by kernel_rfl)) (Tr.every_node (fnOk Tryz.func20 Tryz.call20 (by kernel_rfl)) (Tr.every_node (fnOk Tryz.func36 Tryz.call36 (by kernel_rfl)) (Tr.every_node noFn (Tr.every_node noFn Tr.every_leaf Tr.every_leaf) Tr.every_leaf) (Tr.every_node noFn (Tr.every_node noFn Tr.every_leaf Tr.every_leaf) Tr.every_leaf)) (Tr.every_node (fnOk Tryz.func52 Tryz.call52 (by kernel_rfl)) (Tr.every_node (fnOk Tryz.func84 Tryz.call84 (by kernel_rfl)) (Tr.every_node noFn Tr.every_leaf Tr.every_leaf) Tr.every_leaf) (Tr.every_node noFn Tr.every_leaf Tr.every_leaf))) (Tr.every_node (fnOk Tryz.func28 Tryz.call28 (by kernel_rfl)) (Tr.every_node (fnOk Tryz.func44 Tryz.call44 (by kernel_rfl)) (Tr.every_node (fnOk Tryz.func76 Tryz.call76 (by kernel_rfl)) (Tr.every_node noFn Tr.every_leaf Tr.every_leaf) Tr.every_leaf) (Tr.every_node noFn (Tr.every_node noFn Tr.every_leaf Tr.every_leaf) Tr.every_leaf)) (Tr.every_node (fnOk Tryz.func60 Tryz.call60 (by kernel_rfl)) (Tr.every_node (fnOk Tryz.func92 Tryz.call92 (by kernel_rfl)) (Tr.every_node noFn Tr.every_leaf Tr.every_leaf) Tr.every_leaf) (Tr.every_node noFn Tr.every_leaf Tr.every_leaf))))) (Tr.every_node (fnOk Tryz.func6 Tryz.call6 (by kernel_rfl)) (Tr.every_node (fnOk Tryz.func10 Tryz.call10 (by kernel_rfl)) (Tr.every_node (fnOk Tryz.func18 Tryz.call18 (by kernel_rfl)) (Tr.every_node (fnOk Tryz.func34 Tryz.call34 (by kernel_rfl)) (Tr.every_node (fnOk Tryz.func66 Tryz.call66 (by kernel_rfl)) (Tr.every_node noFn Tr.every_leaf Tr.every_leaf) Tr.every_leaf) (Tr.every_node (fnOk Tryz.func98 Tryz.call98 (by kernel_rfl)) (Tr.every_node noFn Tr.every_leaf Tr.every_leaf) Tr.every_leaf)) (Tr.every_node (fnOk Tryz.func50 Tryz.call50 (by kernel_rfl)) (Tr.every_node (fnOk Tryz.func82 Tryz.call82 (by kernel_rfl)) (Tr.every_node noFn Tr.every_leaf Tr.every_leaf) Tr.every_leaf) (Tr.every_node noFn Tr.every_leaf Tr.every_leaf))) (Tr.every_node (fnOk Tryz.func26 Tryz.call26 (by kernel_rfl)) (Tr.every_node (fnOk Tryz.func42 Tryz.call42 (by kernel_rfl)) (Tr.every_node (fnOk Tryz.func74 Tryz.call74 (by kernel_rfl)) (Tr.every_node noFn Tr.every_leaf Tr.every_leaf) Tr.every_leaf) (Tr.every_node noFn (Tr.every_node noFn Tr.every_leaf Tr.every_leaf) Tr.every_leaf)) (Tr.every_node (fnOk Tryz.func58 Tryz.call58 (by kernel_rfl)) (Tr.every_node noFn (Tr.every_node noFn Tr.every_leaf Tr.every_leaf) Tr.every_leaf) (Tr.every_node noFn Tr.every_leaf Tr.every_leaf)))) (Tr.every_node (fnOk Tryz.func14 Tryz.call14 (by kernel_rfl)) (Tr.every_node (fnOk Tryz.func22 Tryz.call22 (by kernel_rfl)) (Tr.every_node (fnOk Tryz.func38 Tryz.call38 (by kernel_rfl)) (Tr.every_node (fnOk Tryz.func70 Tryz.call70 (by kernel_rfl)) (Tr.every_node noFn Tr.every_leaf Tr.every_leaf) Tr.every_leaf) (Tr.every_node noFn (Tr.every_node noFn Tr.every_leaf Tr.every_leaf) Tr.every_leaf)) (Tr.every_node (fnOk Tryz.func54 Tryz.call54 (by kernel_rfl)) (Tr.every_node (fnOk Tryz.func86 Tryz.call86 (by kernel_rfl)) (Tr.every_node noFn Tr.every_leaf Tr.every_leaf) Tr.every_leaf) (Tr.every_node noFn Tr.every_leaf Tr.every_leaf))) (Tr.every_node (fnOk Tryz.func30 Tryz.call30 (by kernel_rfl)) (Tr.every_node (fnOk Tryz.func46 Tryz.call46 (by kernel_rfl)) (Tr.every_node (fnOk Tryz.func78 Tryz.call78 (by kernel_rfl)) (Tr.every_node noFn Tr.every_leaf Tr.every_leaf) Tr.every_leaf) (Tr.every_node noFn (Tr.every_node noFn Tr.every_leaf Tr.every_leaf) Tr.every_leaf)) (Tr.every_node (fnOk Tryz.func62 Tryz.call62 (by kernel_rfl)) (Tr.every_node noFn (Tr.every_node noFn Tr.every_leaf Tr.every_leaf) Tr.every_leaf) (Tr.every_node noFn Tr.every_leaf Tr.every_leaf)))))))
noncomputable def vP : Tr Prim := (.node none (.node none (.node none (.node none (.node none (.node none (.node none (.node none .leaf .leaf) .leaf) (.node none (.node none .leaf .leaf) .leaf)) (.node none (.node none (.node none .leaf .leaf) .leaf) (.node (some .indexByte) (.node none .leaf .leaf) .leaf))) (.node none (.node none (.node none (.node none .leaf .leaf) .leaf) (.node none (.node none .leaf .leaf) .leaf)) (.node none (.node none (.node none .leaf .leaf) .leaf) (.node none .leaf .leaf)))) (.node none (.node none (.node none (.node none (.node none .leaf .leaf) .leaf) (.node none (.node none .leaf .leaf) .leaf)) (.node none (.node none (.node none .leaf .leaf) .leaf) (.node none .leaf .leaf))) (.node none (.node none (.node none (.node none .leaf .leaf) .leaf) (.node none (.node none .leaf .leaf) .leaf)) (.node none (.node none (.node none .leaf .leaf) .leaf) (.node none .leaf .leaf))))) (.node none (.node none (.node none (.node none (.node (some (.copyCheck [(73, 2, 0), (74, 2, 0)])) (.node none .leaf .leaf) .leaf) (.node (some (.lib libDecode)) (.node none .leaf .leaf) .leaf)) (.node none (.node none (.node none .leaf .leaf) .leaf) (.node none .leaf .leaf))) (.node none (.node none (.node none (.node none .leaf .leaf) .leaf) (.node none (.node none .leaf .leaf) .leaf)) (.node none (.node none (.node none .leaf .leaf) .leaf) (.node none .leaf .leaf)))) (.node none (.node none (.node none (.node none (.node none .leaf .leaf) .leaf) (.node none (.node none .leaf .leaf) .leaf)) (.node none (.node none (.node none .leaf .leaf) .leaf) (.node none .leaf .leaf))) (.node none (.node (some (.builderString 5)) (.node none (.node none .leaf .leaf) .leaf) (.node none (.node none .leaf .leaf) .leaf)) (.node none (.node none (.node none .leaf .leaf) .leaf) (.node none .leaf .leaf)))))) (.node none (.node none (.node none (.node none (.node none (.node none (.node none .leaf .leaf) .leaf) (.node none (.node none .leaf .leaf) .leaf)) (.node none (.node none (.node none .leaf .leaf) .leaf) (.node none (.node none .leaf .leaf) .leaf))) (.node none (.node none (.node (some (.lib (libAtoi 135))) (.node none .leaf .leaf) .leaf) (.node none (.node none .leaf .leaf) .leaf)) (.node none (.node none (.node none .leaf .leaf) .leaf) (.node none .leaf .leaf)))) (.node none (.node none (.node none (.node (some (.lib libValid)) (.node none .leaf .leaf) .leaf) (.node none (.node none .leaf .leaf) .leaf)) (.node none (.node none (.node none .leaf .leaf) .leaf) (.node none .leaf .leaf))) (.node none (.node none (.node none (.node none .leaf .leaf) .leaf) (.node none (.node none .leaf .leaf) .leaf)) (.node none (.node none (.node none .leaf .leaf) .leaf) (.node none .leaf .leaf))))) (.node none (.node none (.node none (.node none (.node none (.node none .leaf .leaf) .leaf) (.node none (.node none .leaf .leaf) .leaf)) (.node none (.node none (.node none .leaf .leaf) .leaf) (.node none .leaf .leaf))) (.node none (.node none (.node none (.node none .leaf .leaf) .leaf) (.node none (.node none .leaf .leaf) .leaf)) (.node none (.node (some (.lib libTrimLeft)) (.node none .leaf .leaf) .leaf) (.node none .leaf .leaf)))) (.node none (.node none (.node none (.node none (.node none .leaf .leaf) .leaf) (.node none (.node none .leaf .leaf) .leaf)) (.node none (.node none (.node none .leaf .leaf) .leaf) (.node none .leaf .leaf))) (.node none (.node none (.node none (.node none .leaf .leaf) .leaf) (.node none (.node none .leaf .leaf) .leaf)) (.node none (.node none (.node none .leaf .leaf) .leaf) (.node none .leaf .leaf)))))))
noncomputable def vG : Tr (List AV) := (.node (some [(.int .u8 (240)), (.int .u8 (240)), (.int .u8 (240)), (.int .u8 (240)), (.int .u8 (240)), (.int .u8 (240)), (.int .u8 (240)), (.int .u8 (240)), (.int .u8 (240)), (.int .u8 (240)), (.int .u8 (240)), (.int .u8 (240)), (.int .u8 (240)), (.int .u8 (240)), (.int .u8 (240)), (.int .u8 (240)), (.int .u8 (240)), (.int .u8 (240)), (.int .u8 (240)), (.int .u8 (240)), (.int .u8 (240)), (.int .u8 (240)), (.int .u8 (240)), (.int .u8 (240)), (.int .u8 (240)), (.int .u8 (240)), (.int .u8 (240)), (.int .u8 (240)), (.int .u8 (240)), (.int .u8 (240)), (.int .u8 (240)), (.int .u8 (240)), (.int .u8 (240)), (.int .u8 (240)), (.int .u8 (240)), (.int .u8 (240)), (.int .u8 (240)), (.int .u8 (240)), (.int .u8 (240)), (.int .u8 (240)), (.int .u8 (240)), (.int .u8 (240)), (.int .u8 (240)), (.int .u8 (240)), (.int .u8 (240)), (.int .u8 (240)), (.int .u8 (240)), (.int .u8 (240)), (.int .u8 (240)), (.int .u8 (240)), (.int .u8 (240)), (.int .u8 (240)), (.int .u8 (240)), (.int .u8 (240)), (.int .u8 (240)), (.int .u8 (240)), (.int .u8 (240)), (.int .u8 (240)), (.int .u8 (240)), (.int .u8 (240)), (.int .u8 (240)), (.int .u8 (240)), (.int .u8 (240)), (.int .u8 (240)), (.int .u8 (240)), (.int .u8 (240)), (.int .u8 (240)), (.int .u8 (240)), (.int .u8 (240)), (.int .u8 (240)), (.int .u8 (240)), (.int .u8 (240)), (.int .u8 (240)), (.int .u8 (240)), (.int .u8 (240)), (.int .u8 (240)), (.int .u8 (240)), (.int .u8 (240)), (.int .u8 (240)), (.int .u8 (240)), (.int .u8 (240)), (.int .u8 (240)), (.int .u8 (240)), (.int .u8 (240)), (.int .u8 (240)), (.int .u8 (240)), (.int .u8 (240)), (.int .u8 (240)), (.int .u8 (240)), (.int .u8 (240)), (.int .u8 (240)), (.int .u8 (240)), (.int .u8 (240)), (.int .u8 (240)), (.int .u8 (240)), (.int .u8 (240)), (.int .u8 (240)), (.int .u8 (240)), (.int .u8 (240)), (.int .u8 (240)), (.int .u8 (240)), (.int .u8 (240)), (.int .u8 (240)), (.int .u8 (240)), (.int .u8 (240)), (.int .u8 (240)), (.int .u8 (240)), (.int .u8 (240)), (.int .u8 (240)), (.int .u8 (240)), (.int .u8 (240)), (.int .u8 (240)), (.int .u8 (240)), (.int .u8 (240)), (.int .u8 (240)), (.int .u8 (240)), (.int .u8 (240)), (.int .u8 (240)), (.int .u8 (240)), (.int .u8 (240)), (.int .u8 (240)), (.int .u8 (240)), (.int .u8 (240)), (.int .u8 (240)), (.int .u8 (240)), (.int .u8 (240)), (.int .u8 (240)), (.int .u8 (240)), (.int .u8 (241)), (.int .u8 (241)), (.int .u8 (241)), (.int .u8 (241)), (.int .u8 (241)), (.int .u8 (241)), (.int .u8 (241)), (.int .u8 (241)), (.int .u8 (241)), (.int .u8 (241)), (.int .u8 (241)), (.int .u8 (241)), (.int .u8 (241)), (.int .u8 (241)), (.int .u8 (241)), (.int .u8 (241)), (.int .u8 (241)), (.int .u8 (241)), (.int .u8 (241)), (.int .u8 (241)), (.int .u8 (241)), (.int .u8 (241)), (.int .u8 (241)), (.int .u8 (241)), (.int .u8 (241)), (.int .u8 (241)), (.int .u8 (241)), (.int .u8 (241)), (.int .u8 (241)), (.int .u8 (241)), (.int .u8 (241)), (.int .u8 (241)), (.int .u8 (241)), (.int .u8 (241)), (.int .u8 (241)), (.int .u8 (241)), (.int .u8 (241)), (.int .u8 (241)), (.int .u8 (241)), (.int .u8 (241)), (.int .u8 (241)), (.int .u8 (241)), (.int .u8 (241)), (.int .u8 (241)), (.int .u8 (241)), (.int .u8 (241)), (.int .u8 (241)), (.int .u8 (241)), (.int .u8 (241)), (.int .u8 (241)), (.int .u8 (241)), (.int .u8 (241)), (.int .u8 (241)), (.int .u8 (241)), (.int .u8 (241)), (.int .u8 (241)), (.int .u8 (241)), (.int .u8 (241)), (.int .u8 (241)), (.int .u8 (241)), (.int .u8 (241)), (.int .u8 (241)), (.int .u8 (241)), (.int .u8 (241)), (.int .u8 (241)), (.int .u8 (241)), (.int .u8 (2)), (.int .u8 (2)), (.int .u8 (2)), (.int .u8 (2)), (.int .u8 (2)), (.int .u8 (2)), (.int .u8 (2)), (.int .u8 (2)), (.int .u8 (2)), (.int .u8 (2)), (.int .u8 (2)), (.int .u8 (2)), (.int .u8 (2)), (.int .u8 (2)), (.int .u8 (2)), (.int .u8 (2)), (.int .u8 (2)), (.int .u8 (2)), (.int .u8 (2)), (.int .u8 (2)), (.int .u8 (2)), (.int .u8 (2)), (.int .u8 (2)), (.int .u8 (2)), (.int .u8 (2)), (.int .u8 (2)), (.int .u8 (2)), (.int .u8 (2)), (.int .u8 (2)), (.int .u8 (2)), (.int .u8 (19)), (.int .u8 (3)), (.int .u8 (3)), (.int .u8 (3)), (.int .u8 (3)), (.int .u8 (3)), (.int .u8 (3)), (.int .u8 (3)), (.int .u8 (3)), (.int .u8 (3)), (.int .u8 (3)), (.int .u8 (3)), (.int .u8 (3)), (.int .u8 (35)), (.int .u8 (3)), (.int .u8 (3)), (.int .u8 (52)), (.int .u8 (4)), (.int .u8 (4)), (.int .u8 (4)), (.int .u8 (68)), (.int .u8 (241)), (.int .u8 (241)), (.int .u8 (241)), (.int .u8 (241)), (.int .u8 (241)), (.int .u8 (241)), (.int .u8 (241)), (.int .u8 (241)), (.int .u8 (241)), (.int .u8 (241)), (.int .u8 (241))]) (.node (some [(.int .u8 (128)), (.int .u8 (191)), (.int .u8 (160)), (.int .u8 (191)), (.int .u8 (128)), (.int .u8 (159)), (.int .u8 (144)), (.int .u8 (191)), (.int .u8 (128)), (.int .u8 (143)), (.int .u8 (0)), (.int .u8 (0)), (.int .u8 (0)), (.int .u8 (0)), (.int .u8 (0)), (.int .u8 (0)), (.int .u8 (0)), (.int .u8 (0)), (.int .u8 (0)), (.int .u8 (0)), (.int .u8 (0)), (.int .u8 (0)), (.int .u8 (0)), (.int .u8 (0)), (.int .u8 (0)), (.int .u8 (0)), (.int .u8 (0)), (.int .u8 (0)), (.int .u8 (0)), (.int .u8 (0)), (.int .u8 (0)), (.int .u8 (0))]) (.node none (.node none .leaf .leaf) .leaf) (.node (some [(.opq true)]) (.node none .leaf .leaf) .leaf)) (.node (some [(.int .u8 (0)), (.int .u8 (0)), (.int .u8 (0)), (.int .u8 (0)), (.int .u8 (0)), (.int .u8 (0)), (.int .u8 (0)), (.int .u8 (0)), (.int .u8 (0)), (.int .u8 (1)), (.int .u8 (1)), (.int .u8 (1)), (.int .u8 (1)), (.int .u8 (1)), (.int .u8 (0)), (.int .u8 (0)), (.int .u8 (0)), (.int .u8 (0)), (.int .u8 (0)), (.int .u8 (0)), (.int .u8 (0)), (.int .u8 (0)), (.int .u8 (0)), (.int .u8 (0)), (.int .u8 (0)), (.int .u8 (0)), (.int .u8 (0)), (.int .u8 (0)), (.int .u8 (0)), (.int .u8 (0)), (.int .u8 (0)), (.int .u8 (0)), (.int .u8 (1)), (.int .u8 (0)), (.int .u8 (0)), (.int .u8 (0)), (.int .u8 (0)), (.int .u8 (0)), (.int .u8 (0)), (.int .u8 (0)), (.int .u8 (0)), (.int .u8 (0)), (.int .u8 (0)), (.int .u8 (0)), (.int .u8 (0)), (.int .u8 (0)), (.int .u8 (0)), (.int .u8 (0)), (.int .u8 (0)), (.int .u8 (0)), (.int .u8 (0)), (.int .u8 (0)), (.int .u8 (0)), (.int .u8 (0)), (.int .u8 (0)), (.int .u8 (0)), (.int .u8 (0)), (.int .u8 (0)), (.int .u8 (0)), (.int .u8 (0)), (.int .u8 (0)), (.int .u8 (0)), (.int .u8 (0)), (.int .u8 (0)), (.int .u8 (0)), (.int .u8 (0)), (.int .u8 (0)), (.int .u8 (0)), (.int .u8 (0)), (.int .u8 (0)), (.int .u8 (0)), (.int .u8 (0)), (.int .u8 (0)), (.int .u8 (0)), (.int .u8 (0)), (.int .u8 (0)), (.int .u8 (0)), (.int .u8 (0)), (.int .u8 (0)), (.int .u8 (0)), (.int .u8 (0)), (.int .u8 (0)), (.int .u8 (0)), (.int .u8 (0)), (.int .u8 (0)), (.int .u8 (0)), (.int .u8 (0)), (.int .u8 (0)), (.int .u8 (0)), (.int .u8 (0)), (.int .u8 (0)), (.int .u8 (0)), (.int .u8 (0)), (.int .u8 (0)), (.int .u8 (0)), (.int .u8 (0)), (.int .u8 (0)), (.int .u8 (0)), (.int .u8 (0)), (.int .u8 (0)), (.int .u8 (0)), (.int .u8 (0)), (.int .u8 (0)), (.int .u8 (0)), (.int .u8 (0)), (.int .u8 (0)), (.int .u8 (0)), (.int .u8 (0)), (.int .u8 (0)), (.int .u8 (0)), (.int .u8 (0)), (.int .u8 (0)), (.int .u8 (0)), (.int .u8 (0)), (.int .u8 (0)), (.int .u8 (0)), (.int .u8 (0)), (.int .u8 (0)), (.int .u8 (0)), (.int .u8 (0)), (.int .u8 (0)), (.int .u8 (0)), (.int .u8 (0)), (.int .u8 (0)), (.int .u8 (0)), (.int .u8 (0)), (.int .u8 (0)), (.int .u8 (0)), (.int .u8 (0)), (.int .u8 (0)), (.int .u8 (0)), (.int .u8 (0)), (.int .u8 (0)), (.int .u8 (0)), (.int .u8 (0)), (.int .u8 (0)), (.int .u8 (0)), (.int .u8 (0)), (.int .u8 (0)), (.int .u8 (0)), (.int .u8 (0)), (.int .u8 (0)), (.int .u8 (0)), (.int .u8 (0)), (.int .u8 (0)), (.int .u8 (0)), (.int .u8 (0)), (.int .u8 (0)), (.int .u8 (0)), (.int .u8 (0)), (.int .u8 (0)), (.int .u8 (0)), (.int .u8 (0)), (.int .u8 (0)), (.int .u8 (0)), (.int .u8 (0)), (.int .u8 (0)), (.int .u8 (0)), (.int .u8 (0)), (.int .u8 (0)), (.int .u8 (0)), (.int .u8 (0)), (.int .u8 (0)), (.int .u8 (0)), (.int .u8 (0)), (.int .u8 (0)), (.int .u8 (0)), (.int .u8 (0)), (.int .u8 (0)), (.int .u8 (0)), (.int .u8 (0)), (.int .u8 (0)), (.int .u8 (0)), (.int .u8 (0)), (.int .u8 (0)), (.int .u8 (0)), (.int .u8 (0)), (.int .u8 (0)), (.int .u8 (0)), (.int .u8 (0)), (.int .u8 (0)), (.int .u8 (0)), (.int .u8 (0)), (.int .u8 (0)), (.int .u8 (0)), (.int .u8 (0)), (.int .u8 (0)), (.int .u8 (0)), (.int .u8 (0)), (.int .u8 (0)), (.int .u8 (0)), (.int .u8 (0)), (.int .u8 (0)), (.int .u8 (0)), (.int .u8 (0)), (.int .u8 (0)), (.int .u8 (0)), (.int .u8 (0)), (.int .u8 (0)), (.int .u8 (0)), (.int .u8 (0)), (.int .u8 (0)), (.int .u8 (0)), (.int .u8 (0)), (.int .u8 (0)), (.int .u8 (0)), (.int .u8 (0)), (.int .u8 (0)), (.int .u8 (0)), (.int .u8 (0)), (.int .u8 (0)), (.int .u8 (0)), (.int .u8 (0)), (.int .u8 (0)), (.int .u8 (0)), (.int .u8 (0)), (.int .u8 (0)), (.int .u8 (0)), (.int .u8 (0)), (.int .u8 (0)), (.int .u8 (0)), (.int .u8 (0)), (.int .u8 (0)), (.int .u8 (0)), (.int .u8 (0)), (.int .u8 (0)), (.int .u8 (0)), (.int .u8 (0)), (.int .u8 (0)), (.int .u8 (0)), (.int .u8 (0)), (.int .u8 (0)), (.int .u8 (0)), (.int .u8 (0)), (.int .u8 (0)), (.int .u8 (0)), (.int .u8 (0)), (.int .u8 (0)), (.int .u8 (0)), (.int .u8 (0)), (.int .u8 (0)), (.int .u8 (0)), (.int .u8 (0)), (.int .u8 (0)), (.int .u8 (0)), (.int .u8 (0)), (.int .u8 (0)), (.int .u8 (0)), (.int .u8 (0)), (.int .u8 (0)), (.int .u8 (0)), (.int .u8 (0)), (.int .u8 (0)), (.int .u8 (0)), (.int .u8 (0)), (.int .u8 (0))]) (.node none (.node none .leaf .leaf) .leaf) (.node none (.node none .leaf .leaf) .leaf)))
noncomputable def vI : Tr (List Nat) := (.node none (.node none (.node (some [26]) (.node (some [26]) (.node (some [26]) (.node none (.node none (.node none .leaf .leaf) .leaf) (.node none (.node none .leaf .leaf) .leaf)) (.node (some [26]) (.node none (.node none .leaf .leaf) .leaf) (.node none (.node none .leaf .leaf) .leaf))) (.node (some [3, 26]) (.node none (.node none (.node none .leaf .leaf) .leaf) (.node none (.node none .leaf .leaf) .leaf)) (.node none (.node none (.node none .leaf .leaf) .leaf) (.node none .leaf .leaf)))) (.node (some [26]) (.node none (.node none (.node none (.node none .leaf .leaf) .leaf) (.node none (.node none .leaf .leaf) .leaf)) (.node (some [26]) (.node none (.node none .leaf .leaf) .leaf) (.node none .leaf .leaf))) (.node none (.node none (.node none (.node none .leaf .leaf) .leaf) (.node none (.node none .leaf .leaf) .leaf)) (.node none (.node none (.node none .leaf .leaf) .leaf) (.node none .leaf .leaf))))) (.node (some [26]) (.node (some [26]) (.node (some [26]) (.node (some [26]) (.node none (.node none .leaf .leaf) .leaf) (.node none (.node none .leaf .leaf) .leaf)) (.node none (.node none (.node none .leaf .leaf) .leaf) (.node none .leaf .leaf))) (.node none (.node (some [23]) (.node none (.node none .leaf .leaf) .leaf) (.node none (.node none .leaf .leaf) .leaf)) (.node none (.node none (.node none .leaf .leaf) .leaf) (.node none .leaf .leaf)))) (.node (some [26]) (.node (some [26]) (.node none (.node none (.node none .leaf .leaf) .leaf) (.node none (.node none .leaf .leaf) .leaf)) (.node none (.node none (.node none .leaf .leaf) .leaf) (.node none .leaf .leaf))) (.node (some [26]) (.node none (.node none (.node none .leaf .leaf) .leaf) (.node none (.node none .leaf .leaf) .leaf)) (.node (some [23]) (.node none (.node none .leaf .leaf) .leaf) (.node none .leaf .leaf)))))) (.node none (.node (some [26, 4000000]) (.node (some [26]) (.node (some [26]) (.node (some [26]) (.node (some [2000024]) (.node none .leaf .leaf) .leaf) (.node none (.node none .leaf .leaf) .leaf)) (.node (some [23]) (.node none (.node none .leaf .leaf) .leaf) (.node none (.node none .leaf .leaf) .leaf))) (.node none (.node none (.node none (.node none .leaf .leaf) .leaf) (.node none (.node none .leaf .leaf) .leaf)) (.node none (.node none (.node none .leaf .leaf) .leaf) (.node none .leaf .leaf)))) (.node none (.node (some [26]) (.node (some [26]) (.node none (.node none .leaf .leaf) .leaf) (.node none (.node none .leaf .leaf) .leaf)) (.node none (.node none (.node none .leaf .leaf) .leaf) (.node none .leaf .leaf))) (.node none (.node none (.node none (.node none .leaf .leaf) .leaf) (.node none (.node none .leaf .leaf) .leaf)) (.node (some [23]) (.node none (.node none .leaf .leaf) .leaf) (.node none .leaf .leaf))))) (.node none (.node (some [26]) (.node (some [26]) (.node none (.node none (.node none .leaf .leaf) .leaf) (.node none (.node none .leaf .leaf) .leaf)) (.node (some [26]) (.node none (.node none .leaf .leaf) .leaf) (.node none .leaf .leaf))) (.node none (.node (some [2000036]) (.node none (.node none .leaf .leaf) .leaf) (.node none (.node none .leaf .leaf) .leaf)) (.node none (.node none (.node none .leaf .leaf) .leaf) (.node none .leaf .leaf)))) (.node (some [26]) (.node (some [26]) (.node none (.node none (.node none .leaf .leaf) .leaf) (.node none (.node none .leaf .leaf) .leaf)) (.node none (.node none (.node none .leaf .leaf) .leaf) (.node none .leaf .leaf))) (.node none (.node none (.node none (.node none .leaf .leaf) .leaf) (.node none (.node none .leaf .leaf) .leaf)) (.node none (.node none (.node none .leaf .leaf) .leaf) (.node none .leaf .leaf)))))))
noncomputable def vfull : List Nat := [32, 42, 64]
noncomputable def vlook : List Nat := []
theorem prim45 : OnePrim Tryz.prog vT (fun b => vG.get b) 45 (.builderString 5) := builderString_prim ⟨Tryz.call45, size_of (by kernel_rfl), run_string_nil, run_string⟩
theorem prim65 : OnePrim Tryz.prog vT (fun b => vG.get b) 65 (.copyCheck [(73, 2, 0), (74, 2, 0)]) := copyCheck_prim ⟨Tryz.call65, run_used, fun b o w e n h1 h2 h3 h4 h5 => run_fresh b o w e n h1 h2 h3 h4 (lies_of (by kernel_rfl) h5)⟩
theorem prim68 : OnePrim Tryz.prog vT (fun b => vG.get b) 68 (.lib libValid) := valid_prim (g3 := 0) (g4 := 1) Tryz.call68 (fun s w h hT => Tryz.utf8_ValidString s w h hT) rfl rfl (by kernel_rfl) (by kernel_rfl)
theorem prim72 : OnePrim Tryz.prog vT (fun b => vG.get b) 72 (.lib (libAtoi 135)) := atoi_prim (g16 := 5) (fun w w' h => by rcases h with rfl | ⟨t, rfl⟩; exact Go.RowKit.Below.refl _ _; exact Lib.bytesWorld_below _ _ _) Tryz.call72 (fun s h1 v h2 w => Tryz.strconv_Atoi_ok s h1 v h2 w) (fun s h1 h2 ev w h3 h4 => (Tryz.strconv_Atoi_range s h1 h2 ev w h3 h4).mono fun e w' ⟨N, e1, _, _, e2⟩ => ⟨N, e1, e2⟩) rfl
theorem prim90 : OnePrim Tryz.prog vT (fun b => vG.get b) 90 (.lib libTrimLeft) := trimLeft_prim Tryz.call90 fun s c w h1 h2 => Tryz.strings_TrimLeft s c w h1 h2
theorem prim97 : OnePrim Tryz.prog vT (fun b => vG.get b) 97 (.lib libDecode) := decode_prim (g3 := 0) (g4 := 1) Tryz.call97 (fun s w hT => Tryz.utf8_DecodeRuneInString s w hT) rfl rfl (by kernel_rfl) (by kernel_rfl)
theorem prim111 : OnePrim Tryz.prog vT (fun b => vG.get b) 111 .indexByte := indexByte_prim (fun s c w => by
  rw [run_callFunc_extern Tryz.func111 (by kernel_rfl) (by kernel_rfl) (by kernel_rfl) (e := Extern.BytealgIndexByte.indexByte) (by kernel_rfl), Lib.run_indexByteString]
  rfl)
theorem vP_ok : Tr.Every (fun f q => OnePrim Tryz.prog vT (fun b => vG.get b) f q) vP := (Tr.every_node noPrim (Tr.every_node noPrim (Tr.every_node noPrim (Tr.every_node noPrim (Tr.every_node noPrim (Tr.every_node noPrim (Tr.every_node noPrim (Tr.every_node noPrim Tr.every_leaf Tr.every_leaf) Tr.every_leaf) (Tr.every_node noPrim (Tr.every_node noPrim Tr.every_leaf Tr.every_leaf) Tr.every_leaf)) (Tr.every_node noPrim (Tr.every_node noPrim (Tr.every_node noPrim Tr.every_leaf Tr.every_leaf) Tr.every_leaf) (Tr.every_node (onePrim prim111) (Tr.every_node noPrim Tr.every_leaf Tr.every_leaf) Tr.every_leaf))) (Tr.every_node noPrim (Tr.every_node noPrim (Tr.every_node noPrim (Tr.every_node noPrim Tr.every_leaf Tr.every_leaf) Tr.every_leaf) (Tr.every_node noPrim (Tr.every_node noPrim Tr.every_leaf Tr.every_leaf) Tr.every_leaf)) (Tr.every_node noPrim (Tr.every_node noPrim (Tr.every_node noPrim Tr.every_leaf Tr.every_leaf) Tr.every_leaf) (Tr.every_node noPrim Tr.every_leaf Tr.every_leaf)))) (Tr.every_node noPrim (Tr.every_node noPrim (Tr.every_node noPrim (Tr.every_node noPrim (Tr.every_node noPrim Tr.every_leaf Tr.every_leaf) Tr.every_leaf) (Tr.every_node noPrim (Tr.every_node noPrim Tr.every_leaf Tr.every_leaf) Tr.every_leaf)) (Tr.every_node noPrim (Tr.every_node noPrim (Tr.every_node noPrim Tr.every_leaf Tr.every_leaf) Tr.every_leaf) (Tr.every_node noPrim Tr.every_leaf Tr.every_leaf))) (Tr.every_node noPrim (Tr.every_node noPrim (Tr.every_node noPrim (Tr.every_node noPrim Tr.every_leaf Tr.every_leaf) Tr.every_leaf) (Tr.every_node noPrim (Tr.every_node noPrim Tr.every_leaf Tr.every_leaf) Tr.every_leaf)) (Tr.every_node noPrim (Tr.every_node noPrim (Tr.every_node noPrim Tr.every_leaf Tr.every_leaf) Tr.every_leaf) (Tr.every_node noPrim Tr.every_leaf Tr.every_leaf))))) (Tr.every_node noPrim (Tr.every_node noPrim (Tr.every_node noPrim (Tr.every_node noPrim (Tr.every_node (onePrim prim65) (Tr.every_node noPrim Tr.every_leaf Tr.every_leaf) Tr.every_leaf) (Tr.every_node (onePrim prim97) (Tr.every_node noPrim Tr.every_leaf Tr.every_leaf) Tr.every_leaf)) (Tr.every_node noPrim (Tr.every_node noPrim (Tr.every_node noPrim Tr.every_leaf Tr.every_leaf) Tr.every_leaf) (Tr.every_node noPrim Tr.every_leaf Tr.every_leaf))) (Tr.every_node noPrim (Tr.every_node noPrim (Tr.every_node noPrim (Tr.every_node noPrim Tr.every_leaf Tr.every_leaf) Tr.every_leaf) (Tr.every_node noPrim (Tr.every_node noPrim Tr.every_leaf Tr.every_leaf) Tr.every_leaf)) (Tr.every_node noPrim (Tr.every_node noPrim (Tr.every_node noPrim Tr.every_leaf Tr.every_leaf) Tr.every_leaf) (Tr.every_node noPrim Tr.every_leaf Tr.every_leaf)))) (Tr.every_node noPrim (Tr.every_node noPrim (Tr.every_node noPrim (Tr.every_node noPrim (Tr.every_node noPrim Tr.every_leaf Tr.every_leaf) Tr.every_leaf) (Tr.every_node noPrim (Tr.every_node noPrim Tr.every_leaf Tr.every_leaf) Tr.every_leaf)) (Tr.every_node noPrim (Tr.every_node noPrim (Tr.every_node noPrim Tr.every_leaf Tr.every_leaf) Tr.every_leaf) (Tr.every_node noPrim Tr.every_leaf Tr.every_leaf))) (Tr.every_node noPrim (Tr.every_node (onePrim prim45) (Tr.every_node noPrim (Tr.every_node noPrim Tr.every_leaf Tr.every_leaf) Tr.every_leaf) (Tr.every_node noPrim (Tr.every_node noPrim Tr.every_leaf Tr.every_leaf) Tr.every_leaf)) (Tr.every_node noPrim (Tr.every_node noPrim (Tr.every_node noPrim Tr.every_leaf Tr.every_leaf) Tr.every_leaf) (Tr.every_node noPrim Tr.every_leaf Tr.every_leaf)))))) (Tr.every_node noPrim (Tr.every_node noPrim (Tr.every_node noPrim (Tr.every_node noPrim (Tr.every_node noPrim (Tr.every_node noPrim (Tr.every_node noPrim Tr.every_leaf Tr.every_leaf) Tr.every_leaf) (Tr.every_node noPrim (Tr.every_node noPrim Tr.every_leaf Tr.every_leaf) Tr.every_leaf)) (Tr.every_node noPrim (Tr.every_node noPrim (Tr.every_node noPrim Tr.every_leaf Tr.every_leaf) Tr.every_leaf) (Tr.every_node noPrim (Tr.every_node noPrim Tr.every_leaf Tr.every_leaf) Tr.every_leaf))) (Tr.every_node noPrim (Tr.every_node noPrim (Tr.every_node (onePrim prim72) (Tr.every_node noPrim Tr.every_leaf Tr.every_leaf) Tr.every_leaf) (Tr.every_node noPrim (Tr.every_node noPrim Tr.every_leaf Tr.every_leaf) Tr.every_leaf)) (Tr.every_node noPrim (Tr.every_node noPrim (Tr.every_node noPrim Tr.every_leaf Tr.every_leaf) Tr.every_leaf) (Tr.every_node noPrim Tr.every_leaf Tr.every_leaf)))) (Tr.every_node noPrim (Tr.every_node noPrim (Tr.every_node noPrim (Tr.every_node (onePrim prim68) (Tr.every_node noPrim Tr.every_leaf Tr.every_leaf) Tr.every_leaf) (Tr.every_node noPrim (Tr.every_node noPrim Tr.every_leaf Tr.every_leaf) Tr.every_leaf)) (Tr.every_node noPrim (Tr.every_node noPrim (Tr.every_node noPrim Tr.every_leaf Tr.every_leaf) Tr.every_leaf) (Tr.every_node noPrim Tr.every_leaf Tr.every_leaf))) (Tr.every_node noPrim (Tr.every_node noPrim (Tr.every_node noPrim (Tr.every_node noPrim Tr.every_leaf Tr.every_leaf) Tr.every_leaf) (Tr.every_node noPrim (Tr.every_node noPrim Tr.every_leaf Tr.every_leaf) Tr.every_leaf)) (Tr.every_node noPrim (Tr.every_node noPrim (Tr.every_node noPrim Tr.every_leaf Tr.every_leaf) Tr.every_leaf) (Tr.every_node noPrim Tr.every_leaf Tr.every_leaf))))) (Tr.every_node noPrim (Tr.every_node noPrim (Tr.every_node noPrim (Tr.every_node noPrim (Tr.every_node noPrim (Tr.every_node noPrim Tr.every_leaf Tr.every_leaf) Tr.every_leaf) (Tr.every_node noPrim (Tr.every_node noPrim Tr.every_leaf Tr.every_leaf) Tr.every_leaf)) (Tr.every_node noPrim (Tr.every_node noPrim (Tr.every_node noPrim Tr.every_leaf Tr.every_leaf) Tr.every_leaf) (Tr.every_node noPrim Tr.every_leaf Tr.every_leaf))) (Tr.every_node noPrim (Tr.every_node noPrim (Tr.every_node noPrim (Tr.every_node noPrim Tr.every_leaf Tr.every_leaf) Tr.every_leaf) (Tr.every_node noPrim (Tr.every_node noPrim Tr.every_leaf Tr.every_leaf) Tr.every_leaf)) (Tr.every_node noPrim (Tr.every_node (onePrim prim90) (Tr.every_node noPrim Tr.every_leaf Tr.every_leaf) Tr.every_leaf) (Tr.every_node noPrim Tr.every_leaf Tr.every_leaf)))) (Tr.every_node noPrim (Tr.every_node noPrim (Tr.every_node noPrim (Tr.every_node noPrim (Tr.every_node noPrim Tr.every_leaf Tr.every_leaf) Tr.every_leaf) (Tr.every_node noPrim (Tr.every_node noPrim Tr.every_leaf Tr.every_leaf) Tr.every_leaf)) (Tr.every_node noPrim (Tr.every_node noPrim (Tr.every_node noPrim Tr.every_leaf Tr.every_leaf) Tr.every_leaf) (Tr.every_node noPrim Tr.every_leaf Tr.every_leaf))) (Tr.every_node noPrim (Tr.every_node noPrim (Tr.every_node noPrim (Tr.every_node noPrim Tr.every_leaf Tr.every_leaf) Tr.every_leaf) (Tr.every_node noPrim (Tr.every_node noPrim Tr.every_leaf Tr.every_leaf) Tr.every_leaf)) (Tr.every_node noPrim (Tr.every_node noPrim (Tr.every_node noPrim Tr.every_leaf Tr.every_leaf) Tr.every_leaf) (Tr.every_node noPrim Tr.every_leaf Tr.every_leaf)))))))
noncomputable def vE : Env where
  T := vT
  F i := vF.get i
  prim i := vP.get i
  full i := vfull.any fun j => i.beq j
  isLook i := vlook.any fun j => i.beq j
  imm f t := match vI.get f with
    | some l => l.any fun j => t.beq j
    | none => false
  G b := vG.get b
  memo _ := []
theorem vE_ok : EnvOk Tryz.prog vE := ⟨vT_ok, fun f fn h => Tr.every_get vF _ vF_ok f fn h, primOk_of fun f q h => Tr.every_get vP _ vP_ok f q h, by kernel_rfl, (fun _ _ h => by cases h), fun _ r _ _ h _ => absurd (show (none : Option (List AV → Option AV)) = some r from h) (by simp)⟩
end Go.Proofs.YtflnfagdpoddiaaGreatDoor.Vm
set_option maxRecDepth 1000000
set_option maxHeartbeats 0
namespace Go.Proofs.YtflnfagdpoddiaaGreatDoor.Vm
open Go Go.VM Go.Proofs
abbrev unF {β : Type} (v : AV) (K : Int → Int → List UInt8 → AV → Option β) : Option β := unA v fun l => unc l fun v1 l => asI .u8 v1 fun a => unc l fun v2 l => asI .u8 v2 fun b => unc l fun v3 l => asS v3 fun s => unc l fun v4 l => un0 l (K a b s v4)
abbrev unK {β : Type} (v : AV) (K : Int → List UInt8 → Option β) : Option β := unA v fun l => unc l fun v1 l => asI .u8 v1 fun a => unc l fun v3 l => asS v3 fun s => un0 l (K a s)
abbrev unP {β : Type} (v : AV) (K : Int → Int → Option β) : Option β := unA v fun l => unc l fun v1 l => asI .i64 v1 fun a => unc l fun v3 l => asI .i64 v3 fun b => un0 l (K a b)
noncomputable def g8_L1 (v13 : AV) : Car → Option (Car ⊕ Nat × Car) := fun c17 => unc (Prod.fst c17) fun v18 l19 => asI .i64 v18 fun n20 => unc l19 fun v21 l22 => asI .i64 v21 fun n23 => un0 l22 (bindO (lenS v13 fun k24 => ifB (decide (n23 < (↑k24 : Int))) (some ([AV.bool (decide (n20 < 1000))], Prod.snd c17)) (some ([AV.bool false], Prod.snd c17))) fun c25 => unc (Prod.fst c25) fun v26 l27 => asB v26 fun b28 => un0 l27 (ifB b28 (idxA 4 v13 n23 (Prod.snd c25) fun v29 _x => loadS 4 true v29 (Prod.snd c25) fun v31 _x => unF v31 fun n37 n40 l43 v44 => (callS (orc vE) 8 [AV.agg [AV.int .u8 n37, AV.int .u8 n40, AV.str l43, v44]] (Prod.snd c25) fun v46 st47 _x => asI .i64 v46 fun n49 => letV (IntKind.wrap .i64 (n20 + n49)) fun n50 => letV (IntKind.wrap .i64 (n23 + 1)) fun n51 => some (Sum.inl ([AV.int .i64 n50, AV.int .i64 n51], st47)))) (some (Sum.inr (0, [AV.int .i64 n20], Prod.snd c25)))))
noncomputable def g8 : AV → Option AV := fun x0 => unF x0 fun _x _x l10 v11 => (asOne v11 (fit1 v11 fun v13 => letV (if 10000 < (↑(List.length l10) : Int) then 10000 else (↑(List.length l10) : Int)) fun n14 => letV (IntKind.wrap .i64 (Int.tdiv n14 16)) fun n15 => letV (IntKind.wrap .i64 (1 + n15)) fun n16 => bindO (loopO (g8_L1 v13) ([AV.int .i64 n16, AV.int .i64 0], St.mk 0 0 Tr.leaf)) fun c52 => unc (Prod.fst (Prod.snd c52)) fun v53 l54 => asI .i64 v53 fun n55 => un0 l54 (some (AV.int .i64 n55))))
theorem g8_eq (x0 : AV) : bareS vE 8 [x0] = g8 x0 := by kernel_rfl
noncomputable def g9_L1 (v13 : AV) : Car → Option (Car ⊕ Nat × Car) := fun c16 => unc (Prod.fst c16) fun v17 l18 => asI .i64 v17 fun n19 => un0 l18 (lenS v13 fun k20 => ifB (decide (n19 < (↑k20 : Int))) (loadS 1 false (AV.mp 1 3) (Prod.snd c16) fun v21 l22 => idxA 4 v13 n19 (Prod.snd c16) fun v23 _x => loadS 4 true v23 (Prod.snd c16) fun v25 _x => unF v25 fun n31 n34 l37 v38 => (callS (orc vE) 9 [AV.agg [AV.int .u8 n31, AV.int .u8 n34, AV.str l37, v38]] (Prod.snd c16) fun v40 st41 x42 => unF v40 fun n47 n50 l53 v54 => (chk (apart (Fx.mk l22 Did.kept) x42 && (apart (Fx.mk [] Did.kept) x42 && true)) (asOne v54 (asOne v54 (fit1 v54 fun v56 => asOne v56 (fit1 v56 fun v57 => appS 4 56 26 v21 [AV.agg [AV.int .u8 n47, AV.int .u8 n50, AV.str l53, v57]] st41 fun v58 st59 _x => asOne v58 (asOne v58 (storeS (orc vE) 1 (AV.mp 1 3) v58 [v58] st59 fun _x st62 _x_1 => letV (IntKind.wrap .i64 (n19 + 1)) fun n64 => some (Sum.inl ([AV.int .i64 n64], st62))))))))))) (some (Sum.inr (0, [], Prod.snd c16))))
noncomputable def g9 : AV → Option AV := fun x0 => unF x0 fun n4 n7 l10 v11 => (asOne v11 (fit1 v11 fun v13 => bindO (loopO (g9_L1 v13) ([AV.int .i64 0], St.mk 2 0 (Tr.node (some (VM.Obj.cells 26 [AV.int .u8 0, AV.int .u8 0, AV.str [], AV.nils])) (Tr.node (some (VM.Obj.cells 26 [AV.int .u8 n4, AV.int .u8 n7, AV.str l10, AV.nils])) Tr.leaf Tr.leaf) Tr.leaf))) fun c65 => un0 (Prod.fst (Prod.snd c65)) (loadS 4 true (AV.mp 1 0) (Prod.snd (Prod.snd c65)) fun v66 _x => unF v66 fun n72 n75 l78 v79 => (asOne v79 (storeS (orc vE) 4 (AV.mp 0 0) (AV.agg [AV.int .u8 n72, AV.int .u8 n75, AV.str l78, v79]) [AV.int .u8 n72, AV.int .u8 n75, AV.str l78, v79] (Prod.snd (Prod.snd c65)) fun _x st82 _x_1 => loadS 4 true (AV.mp 0 0) st82 fun v84 _x => unF v84 fun n90 n93 l96 v97 => (frzS st82 0 (AV.agg [AV.int .u8 n90, AV.int .u8 n93, AV.str l96, v97]) fun v99 => some v99))))))
theorem g9_eq (x0 : AV) : bareS vE 9 [x0] = g9 x0 := by kernel_rfl
noncomputable def g10 : AV → Option AV := fun x0 => unF x0 fun n4 n7 l10 v11 => (asOne v11 (fit1 v11 fun v13 => callS (orc vE) 13 [AV.agg [AV.int .u8 n4, AV.int .u8 n7, AV.str l10, v13]] (St.mk 0 0 Tr.leaf) fun v15 st16 _x => callS (orc vE) 30 [v15] st16 fun v18 _x _x_1 => asS v18 fun l21 => some (AV.str l21)))
theorem g10_eq (x0 : AV) : bareS vE 10 [x0] = g10 x0 := by kernel_rfl
noncomputable def g12_L1 (x0 : AV) (x1 : AV) : Car → Option (Car ⊕ Nat × Car) := fun c2 => unc (Prod.fst c2) fun v3 l4 => asB v3 fun b5 => unc l4 fun v6 l7 => asI .i64 v6 fun n8 => un0 l7 (lenS x0 fun k9 => ifB (decide (n8 < (↑k9 : Int))) (idxA 2 x0 n8 (Prod.snd c2) fun v10 _x => loadS 2 true v10 (Prod.snd c2) fun v12 _x => unK v12 fun n18 l21 => (idxA 2 x1 n8 (Prod.snd c2) fun v22 _x => loadS 2 true v22 (Prod.snd c2) fun v24 _x => unK v24 fun n30 l33 => (bindO (toO (VM.binOp (Env.T vE) BinOp.neq 23 (AV.agg [AV.int .u8 n18, AV.str l21]) (AV.agg [AV.int .u8 n30, AV.str l33]))) fun v34 => asB v34 fun b35 => ifB b35 (some (Sum.inr (1, [AV.bool false], Prod.snd c2))) (letV (IntKind.wrap .i64 (n8 + 1)) fun n36 => some (Sum.inl ([AV.bool b5, AV.int .i64 n36], Prod.snd c2)))))) (some (Sum.inr (0, [AV.bool b5], Prod.snd c2))))
noncomputable def g12 : AV → AV → Option AV := fun x0 x1 => lenS x0 fun k0 => lenS x1 fun k1 => ifB ((↑k0 : Int) != (↑k1 : Int)) (some (AV.bool false)) (bindO (loopO (g12_L1 x0 x1) ([AV.bool false, AV.int .i64 0], St.mk 0 0 Tr.leaf)) fun c37 => unc (Prod.fst (Prod.snd c37)) fun v38 l39 => asB v38 fun b40 => un0 l39 (sel2 (Prod.fst c37) (some (AV.bool true)) fun _x => some (AV.bool b40)))
noncomputable def g13 : AV → Option AV := fun x0 => unF x0 fun n4 n7 l10 v11 => (asOne v11 (fit1 v11 fun v13 => callS (orc vE) 31 [AV.agg [AV.int .u8 n4, AV.int .u8 n7, AV.str l10, v13]] (St.mk 1 0 (Tr.node (some (VM.Obj.cells 31 [AV.nils])) Tr.leaf Tr.leaf)) fun v15 st16 _x => rangeS (orc vE) v15 (lpS vE 13 0 [AV.mp 0 0] 0 Ex.normal) st16 fun c18 st19 => jumpIf c18 Ex.normal (loadS 1 false (AV.mp 0 0) st19 fun v20 _x => frzS st19 0 (oneOf [v20]) fun v22 => some v22) none))
theorem g13_eq (x0 : AV) : bareS vE 13 [x0] = g13 x0 := by kernel_rfl
noncomputable def g15 : AV → Option AV := fun x0 => unF x0 fun n4 n7 l10 v11 => (asOne v11 (fit1 v11 fun v13 => callS (orc vE) 33 [AV.agg [AV.int .u8 n4, AV.int .u8 n7, AV.str l10, v13]] (St.mk 0 0 Tr.leaf) fun v15 st16 _x => asB v15 fun b18 => ifB (!b18) (some (AV.int .i64 4)) (callS (orc vE) 13 [AV.agg [AV.int .u8 n4, AV.int .u8 n7, AV.str l10, v13]] st16 fun v20 st21 _x => callS (orc vE) 30 [v20] st21 fun v23 st24 _x => asS v23 fun l26 => callS (orc vE) 34 [AV.str l26] st24 fun v27 st28 _x => unT v27 fun l30 => nthS l30 0 fun v31 => unT v27 fun l32 => nthS l32 1 fun v33 => asI .i64 v33 fun n34 => bindO (ifB (n34 != 0) (some ([AV.bool true], st28)) (callS (orc vE) 35 [v20, v31] st28 fun v35 st36 _x => asB v35 fun b38 => some ([AV.bool !b38], st36))) fun c39 => unc (Prod.fst c39) fun v40 l41 => asB v40 fun b42 => un0 l41 (ifB b42 (some (AV.int .i64 4)) (some (AV.int .i64 0))))))
theorem g15_eq (x0 : AV) : bareS vE 15 [x0] = g15 x0 := by kernel_rfl
noncomputable def g16 : AV → Option AV := fun x0 => unF x0 fun n4 n7 l10 v11 => (asOne v11 (fit1 v11 fun v13 => callS (orc vE) 36 [AV.agg [AV.int .u8 n4, AV.int .u8 n7, AV.str l10, v13]] (St.mk 0 0 Tr.leaf) fun v15 st16 _x => asB v15 fun b18 => ifB (!b18) (some (AV.int .i64 4)) (callS (orc vE) 11 [AV.agg [AV.int .u8 n4, AV.int .u8 n7, AV.str l10, v13]] st16 fun v20 st21 _x => asS v20 fun l23 => callS (orc vE) 37 [AV.str l23] st21 fun v24 st25 _x => unT v24 fun l27 => nthS l27 0 fun v28 => unT v24 fun l29 => nthS l29 1 fun v30 => asI .i64 v30 fun n31 => bindO (ifB (n31 != 0) (some ([AV.bool true], st25)) (callS (orc vE) 14 [AV.agg [AV.int .u8 n4, AV.int .u8 n7, AV.str l10, v13]] st25 fun v33 st34 _x => callS (orc vE) 12 [v28, v33] st34 fun v36 st37 _x => asB v36 fun b39 => some ([AV.bool !b39], st37))) fun c40 => unc (Prod.fst c40) fun v41 l42 => asB v41 fun b43 => un0 l42 (ifB b43 (some (AV.int .i64 4)) (some (AV.int .i64 0))))))
noncomputable def g17 : AV → AV → Option AV := fun x0 x1 => unF x0 fun n4 n7 l10 v11 => (unF x1 fun n17 n20 l23 v24 => (asOne v11 (fit1 v11 fun v26 => asOne v24 (fit1 v24 fun v27 => bindO (ifB (n4 == n17) (bindO (toO (VM.binOp (Env.T vE) BinOp.eql 23 (AV.agg [AV.int .u8 n7, AV.str l10]) (AV.agg [AV.int .u8 n20, AV.str l23]))) fun v30 => asB v30 fun b31 => ifB b31 (callS (orc vE) 38 [v26, v27, AV.fn (Fn.func 17) [] []] (St.mk 0 0 Tr.leaf) fun v32 st33 _x => asB v32 fun b35 => some ([AV.bool b35], st33)) (some ([AV.bool false], St.mk 0 0 Tr.leaf))) (some ([AV.bool false], St.mk 0 0 Tr.leaf))) fun c36 => unc (Prod.fst c36) fun v37 l38 => asB v37 fun b39 => un0 l38 (some (AV.bool b39))))))
noncomputable def g18_L1 (v26 : AV) (v27 : AV) : Car → Option (Car ⊕ Nat × Car) := fun c38 => unc (Prod.fst c38) fun v39 l40 => asB v39 fun b41 => unc l40 fun v42 l43 => asI .i64 v42 fun n44 => un0 l43 (lenS v26 fun k45 => ifB (decide (n44 < (↑k45 : Int))) (idxA 4 v26 n44 (Prod.snd c38) fun v46 _x => loadS 4 true v46 (Prod.snd c38) fun v48 _x => unF v48 fun n54 n57 l60 v61 => (idxA 4 v27 n44 (Prod.snd c38) fun v63 _x => loadS 4 true v63 (Prod.snd c38) fun v65 _x => unF v65 fun n71 n74 l77 v78 => (callS (orc vE) 18 [AV.agg [AV.int .u8 n54, AV.int .u8 n57, AV.str l60, v61], AV.agg [AV.int .u8 n71, AV.int .u8 n74, AV.str l77, v78]] (Prod.snd c38) fun v80 st81 _x => asB v80 fun b83 => ifB (!b83) (some (Sum.inr (1, [AV.bool false], st81))) (letV (IntKind.wrap .i64 (n44 + 1)) fun n84 => some (Sum.inl ([AV.bool b41, AV.int .i64 n84], st81)))))) (some (Sum.inr (0, [AV.bool b41], Prod.snd c38))))
noncomputable def g18 : AV → AV → Option AV := fun x0 x1 => unF x0 fun n4 n7 l10 v11 => (unF x1 fun n17 n20 l23 v24 => (asOne v11 (fit1 v11 fun v26 => asOne v24 (fit1 v24 fun v27 => bindO (ifB (n4 != n17) (some ([AV.bool true], St.mk 0 0 Tr.leaf)) (bindO (toO (VM.binOp (Env.T vE) BinOp.neq 23 (AV.agg [AV.int .u8 n7, AV.str l10]) (AV.agg [AV.int .u8 n20, AV.str l23]))) fun v30 => asB v30 fun b31 => ifB b31 (some ([AV.bool true], St.mk 0 0 Tr.leaf)) (lenS v26 fun k32 => lenS v27 fun k33 => some ([AV.bool ((↑k32 : Int) != (↑k33 : Int))], St.mk 0 0 Tr.leaf)))) fun c34 => unc (Prod.fst c34) fun v35 l36 => asB v35 fun b37 => un0 l36 (ifB b37 (some (AV.bool false)) (bindO (loopO (g18_L1 v26 v27) ([AV.bool false, AV.int .i64 0], Prod.snd c34)) fun c85 => unc (Prod.fst (Prod.snd c85)) fun v86 l87 => asB v86 fun b88 => un0 l87 (sel2 (Prod.fst c85) (some (AV.bool true)) fun _x => some (AV.bool b88))))))))
noncomputable def g20 : AV → AV → Option AV := fun x0 x1 => unF x0 fun n4 n7 l10 v11 => (asOne v11 (fit1 v11 fun v13 => callS (orc vE) 39 [AV.agg [AV.int .u8 n4, AV.int .u8 n7, AV.str l10, v13], x1] (St.mk 1 0 (Tr.node (some (VM.Obj.cells 26 [AV.int .u8 0, AV.int .u8 0, AV.str [], AV.nils])) Tr.leaf Tr.leaf)) fun v15 st16 _x => unT v15 fun l18 => nthS l18 0 fun v19 => unF v19 fun n24 n27 l30 v31 => (unT v15 fun l33 => nthS l33 1 fun v34 => asI .i64 v34 fun _x => unT v15 fun l36 => nthS l36 2 fun v37 => asB v37 fun b38 => letSt (St.add st16 (VM.Obj.cells 26 [AV.int .u8 0, AV.int .u8 0, AV.str [], AV.nils])) fun st39 => asOne v31 (storeS (orc vE) 4 (AV.mp (St.h st16) 0) (AV.agg [AV.int .u8 n24, AV.int .u8 n27, AV.str l30, v31]) [AV.int .u8 n24, AV.int .u8 n27, AV.str l30, v31] st39 fun _x st41 _x_1 => ifB (!b38) (storeS (orc vE) 4 (AV.mp 0 0) (AV.agg [AV.int .u8 0, AV.int .u8 0, AV.str [], AV.nils]) [AV.int .u8 0, AV.int .u8 0, AV.str [], AV.nils] st41 fun _x st45 _x_2 => loadS 4 true (AV.mp 0 0) st45 fun v47 _x => unF v47 fun n53 n56 l59 v60 => (frzS st45 0 (AV.tup [AV.agg [AV.int .u8 n53, AV.int .u8 n56, AV.str l59, v60], AV.int .i64 5]) fun v62 => some v62)) (loadS 4 true (AV.mp (St.h st16) 0) st41 fun v63 _x => unF v63 fun n69 n72 l75 v76 => (callS (orc vE) 40 [AV.agg [AV.int .u8 n69, AV.int .u8 n72, AV.str l75, v76]] st41 fun v78 st79 _x => unF v78 fun n85 n88 l91 v92 => (asOne v92 (storeS (orc vE) 4 (AV.mp 0 0) (AV.agg [AV.int .u8 n85, AV.int .u8 n88, AV.str l91, v92]) [AV.int .u8 n85, AV.int .u8 n88, AV.str l91, v92] st79 fun _x st95 _x_2 => loadS 4 true (AV.mp 0 0) st95 fun v97 _x => unF v97 fun n103 n106 l109 v110 => (frzS st95 0 (AV.tup [AV.agg [AV.int .u8 n103, AV.int .u8 n106, AV.str l109, v110], AV.int .i64 0]) fun v112 => some v112)))))))))
theorem g20_eq (x0 x1 : AV) : bareS vE 20 [x0, x1] = g20 x0 x1 := by kernel_rfl
noncomputable def g21 : AV → AV → Option AV := fun x0 x1 => unF x0 fun n4 n7 l10 v11 => (asOne v11 (fit1 v11 fun v13 => callS (orc vE) 39 [AV.agg [AV.int .u8 n4, AV.int .u8 n7, AV.str l10, v13], x1] (St.mk 1 0 (Tr.node (some (VM.Obj.cells 41 [AV.int .i64 0, AV.int .i64 0])) Tr.leaf Tr.leaf)) fun v15 st16 _x => unT v15 fun l18 => nthS l18 0 fun v19 => unF v19 fun n24 n27 l30 v31 => (unT v15 fun l33 => nthS l33 1 fun v34 => asI .i64 v34 fun n35 => unT v15 fun l36 => nthS l36 2 fun v37 => asB v37 fun b38 => letSt (St.add st16 (VM.Obj.cells 26 [AV.int .u8 0, AV.int .u8 0, AV.str [], AV.nils])) fun st39 => asOne v31 (storeS (orc vE) 4 (AV.mp (St.h st16) 0) (AV.agg [AV.int .u8 n24, AV.int .u8 n27, AV.str l30, v31]) [AV.int .u8 n24, AV.int .u8 n27, AV.str l30, v31] st39 fun _x st41 _x_1 => ifB (!b38) (storeS (orc vE) 2 (AV.mp 0 0) (AV.agg [AV.int .i64 0, AV.int .i64 0]) [AV.int .i64 0, AV.int .i64 0] st41 fun _x st45 _x_2 => loadS 2 true (AV.mp 0 0) st45 fun v47 _x => unP v47 fun n53 n56 => (some (AV.tup [AV.agg [AV.int .i64 n53, AV.int .i64 n56], AV.int .i64 5]))) (loadS 4 true (AV.mp (St.h st16) 0) st41 fun v57 _x => unF v57 fun n63 n66 l69 v70 => (callS (orc vE) 10 [AV.agg [AV.int .u8 n63, AV.int .u8 n66, AV.str l69, v70]] st41 fun v72 st73 _x => asS v72 fun l75 => letV (IntKind.wrap .i64 (n35 + (↑(List.length l75) : Int))) fun n76 => storeS (orc vE) 2 (AV.mp 0 0) (AV.agg [AV.int .i64 n35, AV.int .i64 n76]) [AV.int .i64 n35, AV.int .i64 n76] st73 fun _x st79 _x_2 => loadS 2 true (AV.mp 0 0) st79 fun v81 _x => unP v81 fun n87 n90 => (some (AV.tup [AV.agg [AV.int .i64 n87, AV.int .i64 n90], AV.int .i64 0]))))))))
theorem g21_eq (x0 x1 : AV) : bareS vE 21 [x0, x1] = g21 x0 x1 := by kernel_rfl
noncomputable def g22_L1 (st41 : St) (v77 : AV) (k80 : Nat) : Car → Option (Car ⊕ Nat × Car) := fun c81 => unc (Prod.fst c81) fun v82 l83 => asI .i64 v82 fun n84 => unc l83 fun v85 l86 => asI .i64 v85 fun n87 => un0 l86 (ifB (decide (n87 < (↑k80 : Int))) (idxA 2 v77 n87 (Prod.snd c81) fun v88 _x => loadS 2 true v88 (Prod.snd c81) fun v90 _x => unK v90 fun n96 l99 => (letSt (St.add (Prod.snd c81) (VM.Obj.cells 23 [AV.int .u8 0, AV.str []])) fun st100 => storeS (orc vE) 2 (AV.mp (St.h (Prod.snd c81)) 0) (AV.agg [AV.int .u8 n96, AV.str l99]) [AV.int .u8 n96, AV.str l99] st100 fun _x st102 _x_1 => loadS 2 true (AV.mp (St.h (Prod.snd c81)) 0) st102 fun v104 _x => unK v104 fun n110 l113 => (callS (orc vE) 41 [AV.agg [AV.int .u8 n110, AV.str l113]] st102 fun v114 st115 _x => asB v114 fun b117 => bindO (ifB (!b117) (loadS 1 false (AV.mp (St.h st41) 0) st115 fun v118 _x => asI .i64 v118 fun n120 => bindO (ifB (decide (n120 < 0)) (storeS (orc vE) 1 (AV.mp (St.h st41) 0) (AV.int .i64 n84) [AV.int .i64 n84] st115 fun _x st122 _x_2 => some ([], st122)) (some ([], st115))) fun c124 => un0 (Prod.fst c124) (loadS 1 false (AV.mp (St.h (Prod.snd c81)) 1) (Prod.snd c124) fun v125 _x => asS v125 fun l127 => letV (IntKind.wrap .i64 (n84 + (↑(List.length l127) : Int))) fun n128 => storeS (orc vE) 1 (AV.mp (St.h st41) 1) (AV.int .i64 n128) [AV.int .i64 n128] (Prod.snd c124) fun _x st130 _x_2 => some ([], st130))) (some ([], st115))) fun c132 => un0 (Prod.fst c132) (loadS 1 false (AV.mp (St.h (Prod.snd c81)) 1) (Prod.snd c132) fun v133 _x => asS v133 fun l135 => letV (IntKind.wrap .i64 (n84 + (↑(List.length l135) : Int))) fun n136 => letV (IntKind.wrap .i64 (n87 + 1)) fun n137 => some (Sum.inl ([AV.int .i64 n136, AV.int .i64 n137], Prod.snd c132)))))) (some (Sum.inr (0, [AV.int .i64 n84], Prod.snd c81))))
noncomputable def g22 : AV → AV → Option AV := fun x0 x1 => unF x0 fun n4 n7 l10 v11 => (asOne v11 (fit1 v11 fun v13 => callS (orc vE) 39 [AV.agg [AV.int .u8 n4, AV.int .u8 n7, AV.str l10, v13], x1] (St.mk 1 0 (Tr.node (some (VM.Obj.cells 41 [AV.int .i64 0, AV.int .i64 0])) Tr.leaf Tr.leaf)) fun v15 st16 _x => unT v15 fun l18 => nthS l18 0 fun v19 => unF v19 fun n24 n27 l30 v31 => (unT v15 fun l33 => nthS l33 1 fun v34 => asI .i64 v34 fun n35 => unT v15 fun l36 => nthS l36 2 fun v37 => asB v37 fun b38 => letSt (St.add st16 (VM.Obj.cells 26 [AV.int .u8 0, AV.int .u8 0, AV.str [], AV.nils])) fun st39 => asOne v31 (storeS (orc vE) 4 (AV.mp (St.h st16) 0) (AV.agg [AV.int .u8 n24, AV.int .u8 n27, AV.str l30, v31]) [AV.int .u8 n24, AV.int .u8 n27, AV.str l30, v31] st39 fun _x st41 _x_1 => ifB (!b38) (storeS (orc vE) 2 (AV.mp 0 0) (AV.agg [AV.int .i64 0, AV.int .i64 0]) [AV.int .i64 0, AV.int .i64 0] st41 fun _x st45 _x_2 => loadS 2 true (AV.mp 0 0) st45 fun v47 _x => unP v47 fun n53 n56 => (some (AV.tup [AV.agg [AV.int .i64 n53, AV.int .i64 n56], AV.int .i64 5]))) (letSt (St.add st41 (VM.Obj.cells 41 [AV.int .i64 0, AV.int .i64 0])) fun st58 => storeS (orc vE) 2 (AV.mp (St.h st41) 0) (AV.agg [AV.int .i64 (-1), AV.int .i64 0]) [AV.int .i64 (-1), AV.int .i64 0] st58 fun _x st60 _x_2 => loadS 4 true (AV.mp (St.h st16) 0) st60 fun v62 _x => unF v62 fun n68 n71 l74 v75 => (callS (orc vE) 13 [AV.agg [AV.int .u8 n68, AV.int .u8 n71, AV.str l74, v75]] st60 fun v77 st78 _x => lenS v77 fun k80 => bindO (loopO (g22_L1 st41 v77 k80) ([AV.int .i64 n35, AV.int .i64 0], st78)) fun c138 => unc (Prod.fst (Prod.snd c138)) fun v139 l140 => asI .i64 v139 fun n141 => un0 l140 (loadS 1 false (AV.mp (St.h st41) 0) (Prod.snd (Prod.snd c138)) fun v142 _x => asI .i64 v142 fun n144 => bindO (ifB (decide (n144 < 0)) (storeS (orc vE) 2 (AV.mp (St.h st41) 0) (AV.agg [AV.int .i64 n141, AV.int .i64 n141]) [AV.int .i64 n141, AV.int .i64 n141] (Prod.snd (Prod.snd c138)) fun _x st147 _x_3 => some ([], st147)) (some ([], Prod.snd (Prod.snd c138)))) fun c149 => un0 (Prod.fst c149) (loadS 2 true (AV.mp (St.h st41) 0) (Prod.snd c149) fun v150 _x => unP v150 fun n156 n159 => (storeS (orc vE) 2 (AV.mp 0 0) (AV.agg [AV.int .i64 n156, AV.int .i64 n159]) [AV.int .i64 n156, AV.int .i64 n159] (Prod.snd c149) fun _x st161 _x_3 => loadS 2 true (AV.mp 0 0) st161 fun v163 _x => unP v163 fun n169 n172 => (some (AV.tup [AV.agg [AV.int .i64 n169, AV.int .i64 n172], AV.int .i64 0])))))))))))
theorem g22_eq (x0 x1 : AV) : bareS vE 22 [x0, x1] = g22 x0 x1 := by kernel_rfl
noncomputable def g23 : AV → AV → Option AV := fun x0 x1 => unF x0 fun n4 n7 l10 v11 => (asI .i64 x1 fun n13 => asOne v11 (fit1 v11 fun v14 => ifB (decide (n13 < 0)) (some (AV.tup [AV.nils, AV.int .i64 1])) (callS (orc vE) 31 [AV.agg [AV.int .u8 n4, AV.int .u8 n7, AV.str l10, v14]] (St.mk 3 0 (Tr.node (some (VM.Obj.cells 36 [AV.nils])) (Tr.node (some (VM.Obj.cells 33 [AV.int .i64 0])) Tr.leaf Tr.leaf) (Tr.node (some (VM.Obj.cells 3 [AV.int .i64 0])) Tr.leaf Tr.leaf))) fun v16 st17 _x => rangeS (orc vE) v16 (lpS vE 23 0 [AV.ip [AV.int .i64 n13], AV.mp 2 0, AV.mp 0 0, AV.mp 1 0] 0 Ex.normal) st17 fun c19 st20 => jumpIf c19 Ex.normal (storeS (orc vE) 1 (AV.mp 0 0) AV.nils [AV.nils] st20 fun _x st22 _x_1 => storeS (orc vE) 1 (AV.mp 1 0) (AV.int .i64 1) [AV.int .i64 1] st22 fun _x st25 _x_2 => loadS 1 false (AV.mp 0 0) st25 fun v27 _x => loadS 1 false (AV.mp 1 0) st25 fun v29 _x => asI .i64 v29 fun n31 => frzS st25 0 (AV.tup [v27, AV.int .i64 n31]) fun v32 => some v32) (jumpIf c19 Ex.ret (loadS 1 false (AV.mp 0 0) st20 fun v33 _x => loadS 1 false (AV.mp 1 0) st20 fun v35 _x => asI .i64 v35 fun n37 => frzS st20 0 (AV.tup [v33, AV.int .i64 n37]) fun v38 => some v38) none))))
theorem g23_eq (x0 x1 : AV) : bareS vE 23 [x0, x1] = g23 x0 x1 := by kernel_rfl
noncomputable def g24_L1 (x0 : AV) (x1 : AV) : Car → Option (Car ⊕ Nat × Car) := fun c2 => unc (Prod.fst c2) fun v3 l4 => asB v3 fun b5 => unc l4 fun v6 l7 => asI .i64 v6 fun n8 => un0 l7 (lenS x0 fun k9 => ifB (decide (n8 < (↑k9 : Int))) (idxA 1 x0 n8 (Prod.snd c2) fun v10 _x => loadS 1 false v10 (Prod.snd c2) fun v12 _x => asI .i64 v12 fun n14 => idxA 1 x1 n8 (Prod.snd c2) fun v15 _x => loadS 1 false v15 (Prod.snd c2) fun v17 _x => asI .i64 v17 fun n19 => ifB (n14 != n19) (some (Sum.inr (1, [AV.bool false], Prod.snd c2))) (letV (IntKind.wrap .i64 (n8 + 1)) fun n20 => some (Sum.inl ([AV.bool b5, AV.int .i64 n20], Prod.snd c2)))) (some (Sum.inr (0, [AV.bool b5], Prod.snd c2))))
noncomputable def g24 : AV → AV → Option AV := fun x0 x1 => lenS x0 fun k0 => lenS x1 fun k1 => ifB ((↑k0 : Int) != (↑k1 : Int)) (some (AV.bool false)) (bindO (loopO (g24_L1 x0 x1) ([AV.bool false, AV.int .i64 0], St.mk 0 0 Tr.leaf)) fun c21 => unc (Prod.fst (Prod.snd c21)) fun v22 l23 => asB v22 fun b24 => un0 l23 (sel2 (Prod.fst c21) (some (AV.bool true)) fun _x => some (AV.bool b24)))
theorem g24_eq (x0 x1 : AV) : bareS vE 24 [x0, x1] = g24 x0 x1 := by kernel_rfl
noncomputable def g26 : AV → AV → AV → Option AV := fun x0 x1 x2 => asI .u8 x0 fun n0 => asS x1 fun l1 => asOne x2 (asOne x2 (frzS (St.mk 1 0 (Tr.node (some (VM.Obj.cells 26 [AV.int .u8 1, AV.int .u8 n0, AV.str l1, x2])) Tr.leaf Tr.leaf)) 0 (AV.agg [AV.int .u8 1, AV.int .u8 n0, AV.str l1, x2]) fun v5 => some v5))
theorem g26_eq (x0 x1 x2 : AV) : bareS vE 26 [x0, x1, x2] = g26 x0 x1 x2 := by kernel_rfl
noncomputable def g27 : AV → Option AV := fun x0 => asS x0 fun l0 => callS (orc vE) 26 [AV.int .u8 1, AV.str l0, AV.nils] (St.mk 1 0 (Tr.node (some (VM.Obj.cells 26 [AV.int .u8 0, AV.int .u8 0, AV.str [], AV.nils])) Tr.leaf Tr.leaf)) fun v1 st2 _x => unF v1 fun n8 n11 l14 v15 => (asOne v15 (storeS (orc vE) 4 (AV.mp 0 0) (AV.agg [AV.int .u8 n8, AV.int .u8 n11, AV.str l14, v15]) [AV.int .u8 n8, AV.int .u8 n11, AV.str l14, v15] st2 fun _x st18 _x_1 => loadS 4 true (AV.mp 0 0) st18 fun v20 _x => unF v20 fun n26 n29 l32 v33 => (frzS st18 0 (AV.agg [AV.int .u8 n26, AV.int .u8 n29, AV.str l32, v33]) fun v35 => some v35)))
theorem g27_eq (x0 : AV) : bareS vE 27 [x0] = g27 x0 := by kernel_rfl
noncomputable def g30_L1 (x0 : AV) (k0 : Nat) : Car → Option (Car ⊕ Nat × Car) := fun c1 => unc (Prod.fst c1) fun v2 l3 => asI .i64 v2 fun n4 => un0 l3 (ifB (decide (n4 < (↑k0 : Int))) (idxA 2 x0 n4 (Prod.snd c1) fun v5 _x => loadS 2 true v5 (Prod.snd c1) fun v7 _x => unK v7 fun n13 l16 => (letSt (St.add (Prod.snd c1) (VM.Obj.cells 23 [AV.int .u8 0, AV.str []])) fun st17 => storeS (orc vE) 2 (AV.mp (St.h (Prod.snd c1)) 0) (AV.agg [AV.int .u8 n13, AV.str l16]) [AV.int .u8 n13, AV.str l16] st17 fun _x st19 _x_1 => loadS 1 false (AV.mp (St.h (Prod.snd c1)) 1) st19 fun v21 _x => asS v21 fun l23 => callS (orc vE) 44 [AV.mp 0 0, AV.str l23] st19 fun _x st25 _x_2 => letV (IntKind.wrap .i64 (n4 + 1)) fun n27 => some (Sum.inl ([AV.int .i64 n27], st25)))) (some (Sum.inr (0, [], Prod.snd c1))))
noncomputable def g30 : AV → Option AV := fun x0 => lenS x0 fun k0 => bindO (loopO (g30_L1 x0 k0) ([AV.int .i64 0], St.mk 1 0 (Tr.node (some (VM.Obj.cells 74 [AV.nilp, AV.nils])) Tr.leaf Tr.leaf))) fun c28 => un0 (Prod.fst (Prod.snd c28)) (planS (orc vE) (primP (Prim.builderString 5) [AV.mp 0 0]) (Prod.snd (Prod.snd c28)) fun v29 _x _x_1 => asS v29 fun l32 => some (AV.str l32))
theorem g30_eq (x0 : AV) : bareS vE 30 [x0] = g30 x0 := by kernel_rfl
noncomputable def g31 : AV → Option AV := fun x0 => unF x0 fun n4 n7 l10 v11 => (asOne v11 (frzS (St.mk 1 0 (Tr.node (some (VM.Obj.cells 26 [AV.int .u8 n4, AV.int .u8 n7, AV.str l10, v11])) Tr.leaf Tr.leaf)) 0 (AV.fn (Fn.func 46) [] [AV.mp 0 0]) fun v13 => some v13))
theorem g31_eq (x0 : AV) : bareS vE 31 [x0] = g31 x0 := by kernel_rfl
noncomputable def g33 : AV → Option AV := fun x0 => unF x0 fun n4 n7 l10 v11 => (asOne v11 (fit1 v11 fun v13 => ifB (n4 == 1) (bindO (toO (VM.binOp (Env.T vE) BinOp.eql 23 (AV.agg [AV.int .u8 n7, AV.str l10]) (AV.agg [AV.int .u8 0, AV.str []]))) fun v16 => asB v16 fun b17 => bindO (ifB b17 (callS (orc vE) 49 [v13, AV.fn (Fn.func 50) [] []] (St.mk 0 0 Tr.leaf) fun v18 st19 _x => asB v18 fun b21 => some ([AV.bool !b21], st19)) (callS (orc vE) 48 [AV.agg [AV.int .u8 n7, AV.str l10]] (St.mk 0 0 Tr.leaf) fun v23 st24 _x => asB v23 fun b26 => ifB b26 (callS (orc vE) 41 [AV.agg [AV.int .u8 n7, AV.str l10]] st24 fun v28 st29 _x => asB v28 fun b31 => ifB (!b31) (callS (orc vE) 49 [v13, AV.fn (Fn.func 50) [] []] st29 fun v32 st33 _x => asB v32 fun b35 => some ([AV.bool !b35], st33)) (some ([AV.bool false], st29))) (some ([AV.bool false], st24)))) fun c36 => unc (Prod.fst c36) fun v37 l38 => asB v37 fun b39 => un0 l38 (some (AV.bool b39))) (ifB (n4 == 2) (bindO (ifB (n7 == 0) (lenS v13 fun k40 => some ([AV.bool ((↑k40 : Int) == 0)], St.mk 0 0 Tr.leaf)) (some ([AV.bool false], St.mk 0 0 Tr.leaf))) fun c41 => unc (Prod.fst c41) fun v42 l43 => asB v42 fun b44 => un0 l43 (some (AV.bool b44))) (bindO (ifB (decide (n4 < 3)) (some ([AV.bool true], St.mk 0 0 Tr.leaf)) (ifB (decide (n4 > 18)) (some ([AV.bool true], St.mk 0 0 Tr.leaf)) (bindO (toO (VM.binOp (Env.T vE) BinOp.neq 23 (AV.agg [AV.int .u8 n7, AV.str l10]) (AV.agg [AV.int .u8 0, AV.str []]))) fun v47 => asB v47 fun b48 => some ([AV.bool b48], St.mk 0 0 Tr.leaf)))) fun c49 => unc (Prod.fst c49) fun v50 l51 => asB v50 fun b52 => un0 l51 (ifB b52 (some (AV.bool false)) (callS (orc vE) 49 [v13, AV.fn (Fn.func 51) [] []] (Prod.snd c49) fun v53 _x _x_1 => asB v53 fun b56 => some (AV.bool !b56)))))))
theorem g33_eq (x0 : AV) : bareS vE 33 [x0] = g33 x0 := by kernel_rfl
noncomputable def g34_L1 : Car → Option (Car ⊕ Nat × Car) := fun c11 => unc (Prod.fst c11) fun v12 l13 => unc l13 fun v14 l15 => asS v14 fun l16 => unc l15 fun v17 l18 => asI .i64 v17 fun n19 => un0 l18 (ifB (decide (n19 < 7)) (idxA 1 (AV.sl 1 [AV.fn (Fn.func 53) [] [], AV.fn (Fn.func 54) [] [], AV.fn (Fn.func 55) [] [], AV.fn (Fn.func 56) [] [], AV.fn (Fn.func 57) [] [], AV.fn (Fn.func 58) [] [], AV.fn (Fn.func 59) [] []] Perm.shut) n19 (Prod.snd c11) fun v20 _x => loadS 1 false v20 (Prod.snd c11) fun v22 _x => callF (orc vE) (Sx.prim (sx vE 34)) v22 [AV.str l16] (Prod.snd c11) fun v24 st25 _x => unT v24 fun l27 => nthS l27 0 fun v28 => asI .u8 v28 fun n29 => unT v24 fun l30 => nthS l30 1 fun v31 => asI .i64 v31 fun n32 => ifB (decide (n32 > 0)) (uptoS n32 (List.length l16) fun k33 => letV (List.drop 0 (List.take k33 l16)) fun l34 => appS 2 24 23 v12 [AV.agg [AV.int .u8 n29, AV.str l34]] st25 fun v36 st37 _x => uptoS n32 (List.length l16) fun k39 => letV (List.drop k39 (List.take (List.length l16) l16)) fun l40 => some (Sum.inr (0, [v36, AV.str l40], st37))) (letV (IntKind.wrap .i64 (n19 + 1)) fun n41 => some (Sum.inl ([v12, AV.str l16, AV.int .i64 n41], st25)))) (some (Sum.inr (0, [v12, AV.str l16], Prod.snd c11))))
noncomputable def g34_L2 : Car → Option (Car ⊕ Nat × Car) := fun c5 => unc (Prod.fst c5) fun v6 l7 => unc l7 fun v8 l9 => asS v8 fun l10 => un0 l9 (ifB (!l10 == []) (bindO (loopO g34_L1 ([v6, AV.str l10, AV.int .i64 0], Prod.snd c5)) fun c42 => unc (Prod.fst (Prod.snd c42)) fun v43 l44 => unc l44 fun v45 l46 => asS v45 fun l47 => un0 l46 (some (Sum.inl ([v43, AV.str l47], Prod.snd (Prod.snd c42))))) (some (Sum.inr (0, [v6], Prod.snd c5))))
noncomputable def g34 : AV → Option AV := fun x0 => asS x0 fun l0 => ifB (decide ((↑(List.length l0) : Int) > 65536)) (some (AV.tup [AV.nils, AV.int .i64 40])) (callS (orc vE) 52 [AV.str l0] (St.mk 0 0 Tr.leaf) fun v1 st2 _x => asB v1 fun b4 => ifB (!b4) (some (AV.tup [AV.nils, AV.int .i64 4])) (bindO (loopO g34_L2 ([AV.nils, AV.str l0], st2)) fun c48 => unc (Prod.fst (Prod.snd c48)) fun v49 l50 => un0 l50 (frzS (Prod.snd (Prod.snd c48)) 0 (AV.tup [v49, AV.int .i64 0]) fun v51 => some v51)))
theorem g34_eq (x0 : AV) : bareS vE 34 [x0] = g34 x0 := by kernel_rfl
noncomputable def g35_L1 (x0 : AV) (x1 : AV) (k2 : Nat) : Car → Option (Car ⊕ Nat × Car) := fun c3 => unc (Prod.fst c3) fun v4 l5 => asB v4 fun b6 => unc l5 fun v7 l8 => asI .i64 v7 fun n9 => un0 l8 (ifB (decide (n9 < (↑k2 : Int))) (idxA 2 x0 n9 (Prod.snd c3) fun v10 _x => loadS 2 true v10 (Prod.snd c3) fun v12 _x => unK v12 fun n18 l21 => (idxA 2 x1 n9 (Prod.snd c3) fun v22 _x => loadS 2 true v22 (Prod.snd c3) fun v24 _x => unK v24 fun n30 l33 => (bindO (toO (VM.binOp (Env.T vE) BinOp.neq 23 (AV.agg [AV.int .u8 n18, AV.str l21]) (AV.agg [AV.int .u8 n30, AV.str l33]))) fun v34 => asB v34 fun b35 => ifB b35 (some (Sum.inr (1, [AV.bool false], Prod.snd c3))) (letV (IntKind.wrap .i64 (n9 + 1)) fun n36 => some (Sum.inl ([AV.bool b6, AV.int .i64 n36], Prod.snd c3)))))) (some (Sum.inr (0, [AV.bool b6], Prod.snd c3))))
noncomputable def g35 : AV → AV → Option AV := fun x0 x1 => lenS x0 fun k0 => lenS x1 fun k1 => ifB ((↑k0 : Int) != (↑k1 : Int)) (some (AV.bool false)) (lenS x0 fun k2 => bindO (loopO (g35_L1 x0 x1 k2) ([AV.bool false, AV.int .i64 0], St.mk 0 0 Tr.leaf)) fun c37 => unc (Prod.fst (Prod.snd c37)) fun v38 l39 => asB v38 fun b40 => un0 l39 (sel2 (Prod.fst c37) (some (AV.bool true)) fun _x => some (AV.bool b40)))
theorem g35_eq (x0 x1 : AV) : bareS vE 35 [x0, x1] = g35 x0 x1 := by kernel_rfl
noncomputable def g37_L1 : Car → Option (Car ⊕ Nat × Car) := fun c5 => unc (Prod.fst c5) fun v6 l7 => unc l7 fun v8 l9 => asS v8 fun l10 => un0 l9 (ifB (!l10 == []) (callS (orc vE) 63 [AV.str l10] (Prod.snd c5) fun v11 st12 _x => unT v11 fun l14 => nthS l14 0 fun v15 => asI .u8 v15 fun n16 => unT v11 fun l17 => nthS l17 1 fun v18 => asI .i64 v18 fun n19 => uptoS n19 (List.length l10) fun k20 => letV (List.drop 0 (List.take k20 l10)) fun l21 => appS 2 24 23 v6 [AV.agg [AV.int .u8 n16, AV.str l21]] st12 fun v23 st24 _x => uptoS n19 (List.length l10) fun k26 => letV (List.drop k26 (List.take (List.length l10) l10)) fun l27 => some (Sum.inl ([v23, AV.str l27], st24))) (some (Sum.inr (0, [v6], Prod.snd c5))))
noncomputable def g37 : AV → Option AV := fun x0 => asS x0 fun l0 => ifB (decide ((↑(List.length l0) : Int) > 65536)) (some (AV.tup [AV.nils, AV.int .i64 40])) (callS (orc vE) 62 [AV.str l0] (St.mk 0 0 Tr.leaf) fun v1 st2 _x => asB v1 fun b4 => ifB (!b4) (some (AV.tup [AV.nils, AV.int .i64 4])) (bindO (loopO g37_L1 ([AV.nils, AV.str l0], st2)) fun c28 => unc (Prod.fst (Prod.snd c28)) fun v29 l30 => un0 l30 (frzS (Prod.snd (Prod.snd c28)) 0 (AV.tup [v29, AV.int .i64 0]) fun v31 => some v31)))
theorem g37_eq (x0 : AV) : bareS vE 37 [x0] = g37 x0 := by kernel_rfl
noncomputable def g39_L1 (v48 : AV) (k49 : Nat) : Car → Option (Car ⊕ Nat × Car) := fun c50 => unc (Prod.fst c50) fun v51 l52 => asI .i64 v51 fun n53 => unc l52 fun v54 l55 => asI .i64 v54 fun n56 => un0 l55 (ifB (decide (n56 < (↑k49 : Int))) (idxA 4 v48 n56 (Prod.snd c50) fun v57 _x => loadS 4 true v57 (Prod.snd c50) fun v59 _x => unF v59 fun n65 n68 l71 v72 => (letSt (St.add (Prod.snd c50) (VM.Obj.cells 26 [AV.int .u8 0, AV.int .u8 0, AV.str [], AV.nils])) fun st74 => asOne v72 (storeS (orc vE) 4 (AV.mp (St.h (Prod.snd c50)) 0) (AV.agg [AV.int .u8 n65, AV.int .u8 n68, AV.str l71, v72]) [AV.int .u8 n65, AV.int .u8 n68, AV.str l71, v72] st74 fun _x st76 _x_1 => loadS 4 true (AV.mp (St.h (Prod.snd c50)) 0) st76 fun v78 _x => unF v78 fun n84 n87 l90 v91 => (callS (orc vE) 10 [AV.agg [AV.int .u8 n84, AV.int .u8 n87, AV.str l90, v91]] st76 fun v93 st94 _x => asS v93 fun l96 => letV (IntKind.wrap .i64 (n53 + (↑(List.length l96) : Int))) fun n97 => letV (IntKind.wrap .i64 (n56 + 1)) fun n98 => some (Sum.inl ([AV.int .i64 n97, AV.int .i64 n98], st94)))))) (some (Sum.inr (0, [AV.int .i64 n53], Prod.snd c50))))
noncomputable def g39_L2 (x1 : AV) (k13 : Nat) : Car → Option (Car ⊕ Nat × Car) := fun c14 => unc (Prod.fst c14) fun v15 l16 => asI .i64 v15 fun n17 => unc l16 fun v18 l19 => asB v18 fun b20 => unc l19 fun v21 l22 => asI .i64 v21 fun n23 => unc l22 fun v24 l25 => asI .i64 v24 fun n26 => un0 l25 (ifB (decide (n26 < (↑k13 : Int))) (idxA 1 x1 n26 (Prod.snd c14) fun v27 _x => loadS 1 false v27 (Prod.snd c14) fun v29 _x => asI .i64 v29 fun n31 => bindO (ifB (decide (n31 < 0)) (some ([AV.bool true], Prod.snd c14)) (loadS 1 false (AV.mp 0 3) (Prod.snd c14) fun v32 _x => lenS v32 fun k34 => some ([AV.bool (decide (n31 ≥ (↑k34 : Int)))], Prod.snd c14))) fun c35 => unc (Prod.fst c35) fun v36 l37 => asB v36 fun b38 => un0 l37 (ifB b38 (storeS (orc vE) 4 (AV.mp 1 0) (AV.agg [AV.int .u8 0, AV.int .u8 0, AV.str [], AV.nils]) [AV.int .u8 0, AV.int .u8 0, AV.str [], AV.nils] (Prod.snd c35) fun _x st41 _x_1 => some (Sum.inr (1, [AV.int .i64 0, AV.bool false, AV.int .i64 n23], st41))) (loadS 1 false (AV.mp 0 0) (Prod.snd c35) fun v43 _x => asI .u8 v43 fun n45 => bindO (ifB (n45 != 2) (loadS 1 false (AV.mp 0 3) (Prod.snd c35) fun v46 _x => sliceS 4 v46 none (some n31) none fun v48 => lenS v48 fun k49 => bindO (loopO (g39_L1 v48 k49) ([AV.int .i64 n23, AV.int .i64 0], Prod.snd c35)) fun c99 => unc (Prod.fst (Prod.snd c99)) fun v100 l101 => asI .i64 v100 fun n102 => un0 l101 (some ([AV.int .i64 n102], Prod.snd (Prod.snd c99)))) (some ([AV.int .i64 n23], Prod.snd c35))) fun c103 => unc (Prod.fst c103) fun v104 l105 => asI .i64 v104 fun n106 => un0 l105 (loadS 1 false (AV.mp 0 3) (Prod.snd c103) fun v107 _x => idxA 4 v107 n31 (Prod.snd c103) fun v109 _x => loadS 4 true v109 (Prod.snd c103) fun v111 _x => unF v111 fun n117 n120 l123 v124 => (asOne v124 (storeS (orc vE) 4 (AV.mp 0 0) (AV.agg [AV.int .u8 n117, AV.int .u8 n120, AV.str l123, v124]) [AV.int .u8 n117, AV.int .u8 n120, AV.str l123, v124] (Prod.snd c103) fun _x st127 _x_1 => letV (IntKind.wrap .i64 (n26 + 1)) fun n129 => some (Sum.inl ([AV.int .i64 n17, AV.bool b20, AV.int .i64 n106, AV.int .i64 n129], st127)))))))) (some (Sum.inr (0, [AV.int .i64 n17, AV.bool b20, AV.int .i64 n23], Prod.snd c14))))
noncomputable def g39 : AV → AV → Option AV := fun x0 x1 => unF x0 fun n4 n7 l10 v11 => (asOne v11 (lenS x1 fun k13 => bindO (loopO (g39_L2 x1 k13) ([AV.int .i64 0, AV.bool false, AV.int .i64 0, AV.int .i64 0], St.mk 2 0 (Tr.node (some (VM.Obj.cells 26 [AV.int .u8 n4, AV.int .u8 n7, AV.str l10, v11])) (Tr.node (some (VM.Obj.cells 26 [AV.int .u8 0, AV.int .u8 0, AV.str [], AV.nils])) Tr.leaf Tr.leaf) Tr.leaf))) fun c130 => unc (Prod.fst (Prod.snd c130)) fun v131 l132 => asI .i64 v131 fun n133 => unc l132 fun v134 l135 => asB v134 fun b136 => unc l135 fun v137 l138 => asI .i64 v137 fun n139 => un0 l138 (sel2 (Prod.fst c130) (loadS 4 true (AV.mp 0 0) (Prod.snd (Prod.snd c130)) fun v140 _x => unF v140 fun n146 n149 l152 v153 => (asOne v153 (storeS (orc vE) 4 (AV.mp 1 0) (AV.agg [AV.int .u8 n146, AV.int .u8 n149, AV.str l152, v153]) [AV.int .u8 n146, AV.int .u8 n149, AV.str l152, v153] (Prod.snd (Prod.snd c130)) fun _x st156 _x_1 => loadS 4 true (AV.mp 1 0) st156 fun v158 _x => unF v158 fun n164 n167 l170 v171 => (frzS st156 0 (AV.tup [AV.agg [AV.int .u8 n164, AV.int .u8 n167, AV.str l170, v171], AV.int .i64 n139, AV.bool true]) fun v173 => some v173)))) fun _x => loadS 4 true (AV.mp 1 0) (Prod.snd (Prod.snd c130)) fun v175 _x => unF v175 fun n181 n184 l187 v188 => (frzS (Prod.snd (Prod.snd c130)) 0 (AV.tup [AV.agg [AV.int .u8 n181, AV.int .u8 n184, AV.str l187, v188], AV.int .i64 n133, AV.bool b136]) fun v190 => some v190))))
theorem g39_eq (x0 x1 : AV) : bareS vE 39 [x0, x1] = g39 x0 x1 := by kernel_rfl
noncomputable def g40_L1 (v11 : AV) (k13 : Nat) : Car → Option (Car ⊕ Nat × Car) := fun c14 => unc (Prod.fst c14) fun v15 l16 => unc l16 fun v17 l18 => asI .i64 v17 fun n19 => un0 l18 (ifB (decide (n19 < (↑k13 : Int))) (idxA 4 v11 n19 (Prod.snd c14) fun v20 _x => loadS 4 true v20 (Prod.snd c14) fun v22 _x => unF v22 fun n28 n31 l34 v35 => (letSt (St.add (Prod.snd c14) (VM.Obj.cells 26 [AV.int .u8 0, AV.int .u8 0, AV.str [], AV.nils])) fun st37 => asOne v35 (storeS (orc vE) 4 (AV.mp (St.h (Prod.snd c14)) 0) (AV.agg [AV.int .u8 n28, AV.int .u8 n31, AV.str l34, v35]) [AV.int .u8 n28, AV.int .u8 n31, AV.str l34, v35] st37 fun _x st39 _x_1 => loadS 4 true (AV.mp (St.h (Prod.snd c14)) 0) st39 fun v41 _x => unF v41 fun n47 n50 l53 v54 => (callS (orc vE) 40 [AV.agg [AV.int .u8 n47, AV.int .u8 n50, AV.str l53, v54]] st39 fun v56 st57 _x => unF v56 fun n63 n66 l69 v70 => (asOne v70 (asOne v70 (fit1 v70 fun v72 => asOne v72 (fit1 v72 fun v73 => appS 4 56 26 v15 [AV.agg [AV.int .u8 n63, AV.int .u8 n66, AV.str l69, v73]] st57 fun v74 st75 _x => letV (IntKind.wrap .i64 (n19 + 1)) fun n77 => some (Sum.inl ([v74, AV.int .i64 n77], st75)))))))))) (some (Sum.inr (0, [v15], Prod.snd c14))))
noncomputable def g40 : AV → Option AV := fun x0 => unF x0 fun n4 n7 l10 v11 => (asOne v11 (lenS v11 fun k13 => bindO (loopO (g40_L1 v11 k13) ([AV.nils, AV.int .i64 0], St.mk 2 0 (Tr.node (some (VM.Obj.cells 26 [AV.int .u8 n4, AV.int .u8 n7, AV.str l10, v11])) (Tr.node (some (VM.Obj.cells 26 [AV.int .u8 0, AV.int .u8 0, AV.str [], AV.nils])) Tr.leaf Tr.leaf) Tr.leaf))) fun c78 => unc (Prod.fst (Prod.snd c78)) fun v79 l80 => un0 l80 (asOne v79 (asOne v79 (storeS (orc vE) 1 (AV.mp 0 3) v79 [v79] (Prod.snd (Prod.snd c78)) fun _x st82 _x_1 => loadS 4 true (AV.mp 0 0) st82 fun v84 _x => unF v84 fun n90 n93 l96 v97 => (asOne v97 (storeS (orc vE) 4 (AV.mp 1 0) (AV.agg [AV.int .u8 n90, AV.int .u8 n93, AV.str l96, v97]) [AV.int .u8 n90, AV.int .u8 n93, AV.str l96, v97] st82 fun _x st100 _x_2 => loadS 4 true (AV.mp 1 0) st100 fun v102 _x => unF v102 fun n108 n111 l114 v115 => (frzS st100 0 (AV.agg [AV.int .u8 n108, AV.int .u8 n111, AV.str l114, v115]) fun v117 => some v117))))))))
theorem g40_eq (x0 : AV) : bareS vE 40 [x0] = g40 x0 := by kernel_rfl
noncomputable def g41 : AV → Option AV := fun x0 => unK x0 fun n4 _x => (bindO (ifB (n4 == 1) (some ([AV.bool true], St.mk 0 0 Tr.leaf)) (some ([AV.bool (n4 == 2)], St.mk 0 0 Tr.leaf))) fun c8 => unc (Prod.fst c8) fun v9 l10 => asB v9 fun b11 => un0 l10 (some (AV.bool b11)))
theorem g41_eq (x0 : AV) : bareS vE 41 [x0] = g41 x0 := by kernel_rfl
noncomputable def g48 : AV → Option AV := fun x0 => unK x0 fun n4 l7 => (callS (orc vE) 66 [AV.str l7] (St.mk 0 0 Tr.leaf) fun v8 st9 _x => unT v8 fun l11 => nthS l11 0 fun v12 => unK v12 fun n17 l20 => (unT v8 fun l21 => nthS l21 1 fun v22 => asI .i64 v22 fun n23 => letSt (St.add st9 (VM.Obj.cells 23 [AV.int .u8 0, AV.str []])) fun st24 => storeS (orc vE) 2 (AV.mp (St.h st9) 0) (AV.agg [AV.int .u8 n17, AV.str l20]) [AV.int .u8 n17, AV.str l20] st24 fun _x st26 _x_1 => bindO (ifB (n23 == 0) (loadS 2 true (AV.mp (St.h st9) 0) st26 fun v28 _x => unK v28 fun n34 l37 => (bindO (toO (VM.binOp (Env.T vE) BinOp.eql 23 (AV.agg [AV.int .u8 n34, AV.str l37]) (AV.agg [AV.int .u8 n4, AV.str l7]))) fun v39 => asB v39 fun b40 => some ([AV.bool b40], st26))) (some ([AV.bool false], st26))) fun c41 => unc (Prod.fst c41) fun v42 l43 => asB v42 fun b44 => un0 l43 (some (AV.bool b44))))
theorem g48_eq (x0 : AV) : bareS vE 48 [x0] = g48 x0 := by kernel_rfl
noncomputable def g49 : AV → AV → Option AV := fun x0 x1 => callS (orc vE) 67 [x0, x1] (St.mk 0 0 Tr.leaf) fun v0 _x _x_1 => asI .i64 v0 fun n3 => some (AV.bool (decide (n3 ≥ 0)))
theorem g49_eq (x0 x1 : AV) : bareS vE 49 [x0, x1] = g49 x0 x1 := by kernel_rfl
noncomputable def g50 : AV → Option AV := fun x0 => unF x0 fun n4 n7 l10 v11 => (asOne v11 (fit1 v11 fun v13 => bindO (ifB (n4 != 1) (some ([AV.bool true], St.mk 0 0 Tr.leaf)) (lenS v13 fun k14 => ifB (decide ((↑k14 : Int) > 0)) (some ([AV.bool true], St.mk 0 0 Tr.leaf)) (callS (orc vE) 41 [AV.agg [AV.int .u8 n7, AV.str l10]] (St.mk 0 0 Tr.leaf) fun v16 st17 _x => asB v16 fun b19 => ifB (!b19) (some ([AV.bool true], st17)) (callS (orc vE) 48 [AV.agg [AV.int .u8 n7, AV.str l10]] st17 fun v21 st22 _x => asB v21 fun b24 => some ([AV.bool !b24], st22))))) fun c25 => unc (Prod.fst c25) fun v26 l27 => asB v26 fun b28 => un0 l27 (some (AV.bool b28))))
theorem g50_eq (x0 : AV) : bareS vE 50 [x0] = g50 x0 := by kernel_rfl
noncomputable def g51 : AV → Option AV := fun x0 => unF x0 fun n4 n7 l10 v11 => (asOne v11 (fit1 v11 fun v13 => callS (orc vE) 33 [AV.agg [AV.int .u8 n4, AV.int .u8 n7, AV.str l10, v13]] (St.mk 0 0 Tr.leaf) fun v15 _x _x_1 => asB v15 fun b18 => some (AV.bool !b18)))
theorem g51_eq (x0 : AV) : bareS vE 51 [x0] = g51 x0 := by kernel_rfl
noncomputable def g52 : AV → Option AV := fun x0 => asS x0 fun l0 => planS (orc vE) (primP (Prim.lib libValid) [AV.str l0]) (St.mk 0 0 Tr.leaf) fun v1 _x _x_1 => asB v1 fun b4 => some (AV.bool b4)
theorem g52_eq (x0 : AV) : bareS vE 52 [x0] = g52 x0 := by kernel_rfl
noncomputable def g53 : AV → Option AV := fun x0 => asS x0 fun l0 => callS (orc vE) 69 [AV.str l0, AV.str [32, 9, 10, 13]] (St.mk 0 0 Tr.leaf) fun v1 _x _x_1 => asI .i64 v1 fun n4 => some (AV.tup [AV.int .u8 1, AV.int .i64 n4])
theorem g53_eq (x0 : AV) : bareS vE 53 [x0] = g53 x0 := by kernel_rfl
noncomputable def g54_L1 (l0 : List UInt8) : Car → Option (Car ⊕ Nat × Car) := fun c5 => unc (Prod.fst c5) fun v6 l7 => asI .i64 v6 fun n8 => unc l7 fun v9 l10 => asI .u8 v9 fun n11 => unc l10 fun v12 l13 => asI .i64 v12 fun n14 => unc l13 fun v15 l16 => asI .i64 v15 fun n17 => un0 l16 (ifB (decide (n17 < (↑(List.length l0) : Int))) (uptoS n17 (List.length l0) fun k18 => letV (List.drop k18 (List.take (List.length l0) l0)) fun l19 => callS (orc vE) 70 [AV.str l19, AV.str [40, 42]] (Prod.snd c5) fun v20 st21 _x => asB v20 fun b23 => bindO (ifB b23 (letV (IntKind.wrap .i64 (n8 + 1)) fun n24 => letV (IntKind.wrap .i64 (n17 + 2)) fun n25 => some (Sum.inl ([AV.int .i64 n24, AV.int .u8 n11, AV.int .i64 n14, AV.int .i64 n25], st21))) (uptoS n17 (List.length l0) fun k26 => letV (List.drop k26 (List.take (List.length l0) l0)) fun l27 => callS (orc vE) 70 [AV.str l27, AV.str [42, 41]] st21 fun v28 st29 _x => asB v28 fun b31 => bindO (ifB b31 (letV (IntKind.wrap .i64 (n8 - 1)) fun n32 => letV (IntKind.wrap .i64 (n17 + 2)) fun n33 => ifB (n32 == 0) (some (Sum.inr (Sum.inr (Sum.inr (1, [AV.int .u8 2, AV.int .i64 n33], st29))))) (some (Sum.inl ([AV.int .i64 n32, AV.int .u8 n11, AV.int .i64 n14, AV.int .i64 n33], st29)))) (letV (IntKind.wrap .i64 (n17 + 1)) fun n34 => some (Sum.inl ([AV.int .i64 n8, AV.int .u8 n11, AV.int .i64 n14, AV.int .i64 n34], st29)))) fun c35 => onSum c35 fun c36 => unc (Prod.fst c36) fun v37 l38 => asI .i64 v37 fun n39 => unc l38 fun v40 l41 => asI .u8 v40 fun n42 => unc l41 fun v43 l44 => asI .i64 v43 fun n45 => unc l44 fun v46 l47 => asI .i64 v46 fun n48 => un0 l47 (some (Sum.inl ([AV.int .i64 n39, AV.int .u8 n42, AV.int .i64 n45, AV.int .i64 n48], Prod.snd c36))))) fun c49 => onSum c49 fun c50 => unc (Prod.fst c50) fun v51 l52 => asI .i64 v51 fun n53 => unc l52 fun v54 l55 => asI .u8 v54 fun n56 => unc l55 fun v57 l58 => asI .i64 v57 fun n59 => unc l58 fun v60 l61 => asI .i64 v60 fun n62 => un0 l61 (some (Sum.inl ([AV.int .i64 n53, AV.int .u8 n56, AV.int .i64 n59, AV.int .i64 n62], Prod.snd c50)))) (some (Sum.inr (0, [AV.int .u8 n11, AV.int .i64 n14], Prod.snd c5))))
noncomputable def g54 : AV → Option AV := fun x0 => asS x0 fun l0 => callS (orc vE) 70 [AV.str l0, AV.str [40, 42]] (St.mk 0 0 Tr.leaf) fun v1 st2 _x => asB v1 fun b4 => ifB (!b4) (some (AV.tup [AV.int .u8 0, AV.int .i64 0])) (bindO (loopO (g54_L1 l0) ([AV.int .i64 0, AV.int .u8 0, AV.int .i64 0, AV.int .i64 0], st2)) fun c63 => unc (Prod.fst (Prod.snd c63)) fun v64 l65 => asI .u8 v64 fun n66 => unc l65 fun v67 l68 => asI .i64 v67 fun n69 => un0 l68 (sel2 (Prod.fst c63) (some (AV.tup [AV.int .u8 9, AV.int .i64 (↑(List.length l0) : Int)])) fun _x => some (AV.tup [AV.int .u8 n66, AV.int .i64 n69])))
theorem g54_eq (x0 : AV) : bareS vE 54 [x0] = g54 x0 := by kernel_rfl
noncomputable def g55 : AV → Option AV := fun x0 => asS x0 fun l0 => chk (Nat.ble 1 (List.length l0)) (letV (List.drop 0 (List.take 1 l0)) fun l1 => callS (orc vE) 69 [AV.str l1, AV.str [97, 98, 99, 100, 101, 102, 103, 104, 105, 106, 107, 108, 109, 110, 111, 112, 113, 114, 115, 116, 117, 118, 119, 120, 121, 122, 95]] (St.mk 0 0 Tr.leaf) fun v2 st3 _x => asI .i64 v2 fun n5 => ifB (n5 == 0) (some (AV.tup [AV.int .u8 0, AV.int .i64 0])) (callS (orc vE) 69 [AV.str l0, AV.str [97, 98, 99, 100, 101, 102, 103, 104, 105, 106, 107, 108, 109, 110, 111, 112, 113, 114, 115, 116, 117, 118, 119, 120, 121, 122, 95, 65, 66, 67, 68, 69, 70, 71, 72, 73, 74, 75, 76, 77, 78, 79, 80, 81, 82, 83, 84, 85, 86, 87, 88, 89, 90, 39, 48, 49, 50, 51, 52, 53, 54, 55, 56, 57]] st3 fun v6 st7 _x => asI .i64 v6 fun n9 => callS (orc vE) 71 [] st7 fun v10 st11 x12 => chk (apart x12 (Fx.mk [] Did.kept) && true) (chk (apart x12 (Fx.mk [] Did.kept) && true) (uptoS n9 (List.length l0) fun k13 => letV (List.drop 0 (List.take k13 l0)) fun l14 => chk (apart x12 (Fx.mk [] Did.kept) && true) (planS (orc vE) (lookupP (Env.T vE) 96 v10 (AV.str l14) true) st11 fun v15 _x _x_1 => unT v15 fun l18 => nthS l18 0 fun v19 => asI .u8 v19 fun n20 => unT v15 fun l21 => nthS l21 1 fun v22 => asB v22 fun b23 => ifB b23 (some (AV.tup [AV.int .u8 n20, AV.int .i64 n9])) (some (AV.tup [AV.int .u8 4, AV.int .i64 n9])))))))
theorem g55_eq (x0 : AV) : bareS vE 55 [x0] = g55 x0 := by kernel_rfl
noncomputable def g56 : AV → Option AV := fun x0 => asS x0 fun l0 => callS (orc vE) 69 [AV.str l0, AV.str [48, 49, 50, 51, 52, 53, 54, 55, 56, 57]] (St.mk 0 0 Tr.leaf) fun v1 st2 _x => asI .i64 v1 fun n4 => bindO (ifB (n4 == 0) (some ([AV.bool true], st2)) (uptoS n4 (List.length l0) fun k5 => letV (List.drop k5 (List.take (List.length l0) l0)) fun l6 => callS (orc vE) 70 [AV.str l6, AV.str [46]] st2 fun v7 st8 _x => asB v7 fun b10 => some ([AV.bool !b10], st8))) fun c11 => unc (Prod.fst c11) fun v12 l13 => asB v12 fun b14 => un0 l13 (ifB b14 (some (AV.tup [AV.int .u8 5, AV.int .i64 n4])) (letV (IntKind.wrap .i64 (n4 + 1)) fun n15 => uptoS n15 (List.length l0) fun k16 => letV (List.drop k16 (List.take (List.length l0) l0)) fun l17 => callS (orc vE) 69 [AV.str l17, AV.str [48, 49, 50, 51, 52, 53, 54, 55, 56, 57]] (Prod.snd c11) fun v18 st19 _x => asI .i64 v18 fun n21 => letV (IntKind.wrap .i64 (n4 + n21)) fun n22 => letV (IntKind.wrap .i64 (n4 + 1)) fun n23 => letV (IntKind.wrap .i64 (n23 + n21)) fun n24 => letV (IntKind.wrap .i64 (n24 + 1)) fun n25 => letV (if (↑(List.length l0) : Int) < n25 then (↑(List.length l0) : Int) else n25) fun n26 => uptoS n26 (List.length l0) fun k27 => uptoS n24 k27 fun k28 => letV (List.drop k28 (List.take k27 l0)) fun l29 => callS (orc vE) 69 [AV.str l29, AV.str [101, 69]] st19 fun v30 st31 _x => asI .i64 v30 fun n33 => bindO (ifB (decide (n33 > 0)) (letV (IntKind.wrap .i64 (n24 + 1)) fun n34 => letV (IntKind.wrap .i64 (n24 + 2)) fun n35 => letV (if (↑(List.length l0) : Int) < n35 then (↑(List.length l0) : Int) else n35) fun n36 => uptoS n36 (List.length l0) fun k37 => uptoS n34 k37 fun k38 => letV (List.drop k38 (List.take k37 l0)) fun l39 => callS (orc vE) 69 [AV.str l39, AV.str [43, 45]] st31 fun v40 st41 _x => asI .i64 v40 fun n43 => letV (IntKind.wrap .i64 (n24 + 1)) fun n44 => letV (IntKind.wrap .i64 (n44 + n43)) fun n45 => uptoS n45 (List.length l0) fun k46 => letV (List.drop k46 (List.take (List.length l0) l0)) fun l47 => callS (orc vE) 69 [AV.str l47, AV.str [48, 49, 50, 51, 52, 53, 54, 55, 56, 57]] st41 fun v48 st49 _x => asI .i64 v48 fun n51 => bindO (ifB (decide (n51 > 0)) (letV (IntKind.wrap .i64 (n24 + 1)) fun n52 => letV (IntKind.wrap .i64 (n24 + 1)) fun n53 => letV (IntKind.wrap .i64 (n53 + n43)) fun n54 => letV (IntKind.wrap .i64 (n54 + n51)) fun n55 => uptoS n55 (List.length l0) fun k56 => uptoS n52 k56 fun k57 => letV (List.drop k57 (List.take k56 l0)) fun l58 => callS (orc vE) 73 [AV.str l58, AV.str [43]] st49 fun v59 st60 _x => asS v59 fun l62 => planS (orc vE) (primP (Prim.lib (libAtoi 135)) [AV.str l62]) st60 fun v63 st64 _x => unT v63 fun l66 => nthS l66 0 fun v67 => asI .i64 v67 fun n68 => unT v63 fun l69 => nthS l69 1 fun v70 => bindO (nifS BinOp.neq v70) fun v71 => asB v71 fun b72 => bindO (ifB b72 (some ([AV.int .i64 1073741824], st64)) (some ([AV.int .i64 n68], st64))) fun c73 => unc (Prod.fst c73) fun v74 l75 => asI .i64 v74 fun n76 => un0 l75 (letV (IntKind.wrap .i64 (n24 + 1)) fun n77 => letV (IntKind.wrap .i64 (n77 + n43)) fun n78 => letV (IntKind.wrap .i64 (n78 + n51)) fun n79 => some ([AV.int .i64 n79, AV.int .i64 n76], Prod.snd c73))) (some ([AV.int .i64 n24, AV.int .i64 0], st49))) fun c80 => unc (Prod.fst c80) fun v81 l82 => asI .i64 v81 fun n83 => unc l82 fun v84 l85 => asI .i64 v84 fun n86 => un0 l85 (some ([AV.int .i64 n83, AV.int .i64 n86], Prod.snd c80))) (some ([AV.int .i64 n24, AV.int .i64 0], st31))) fun c87 => unc (Prod.fst c87) fun v88 l89 => asI .i64 v88 fun n90 => unc l89 fun v91 l92 => asI .i64 v91 fun n93 => un0 l92 (bindO (ifB (decide (n22 > 15)) (some ([AV.bool true], Prod.snd c87)) (letV (IntKind.wrap .i64 (n93 - n21)) fun n94 => ifB (decide (n94 < -22)) (some ([AV.bool true], Prod.snd c87)) (letV (IntKind.wrap .i64 (n93 - n21)) fun n95 => some ([AV.bool (decide (n95 > 22))], Prod.snd c87)))) fun c96 => unc (Prod.fst c96) fun v97 l98 => asB v97 fun b99 => un0 l98 (ifB b99 (some (AV.tup [AV.int .u8 9, AV.int .i64 n90])) (some (AV.tup [AV.int .u8 6, AV.int .i64 n90]))))))
theorem g56_eq (x0 : AV) : bareS vE 56 [x0] = g56 x0 := by kernel_rfl
noncomputable def g57_L1 (l11 : List UInt8) : Car → Option (Car ⊕ Nat × Car) := fun c12 => unc (Prod.fst c12) fun v13 l14 => asI .u8 v13 fun n15 => unc l14 fun v16 l17 => asI .i64 v16 fun n18 => unc l17 fun v19 l20 => asI .i64 v19 fun n21 => un0 l20 (ifB (decide (n21 < (↑(List.length l11) : Int))) (bindO (idxStr l11 n21 fun c22 => ifB ((↑(UInt8.toNat c22) : Int) == 34) (letV (IntKind.wrap .i64 (n21 + 1)) fun n23 => some (Sum.inr (Sum.inr (1, [AV.int .u8 7, AV.int .i64 n23], Prod.snd c12)))) (ifB ((↑(UInt8.toNat c22) : Int) == 92) (bindO (letV (IntKind.wrap .i64 (n21 + 1)) fun n24 => ifB (decide (n24 < (↑(List.length l11) : Int))) (letV (IntKind.wrap .i64 (n21 + 1)) fun n25 => idxStr l11 n25 fun c26 => callS (orc vE) 74 [AV.str [110, 116, 92, 34], AV.int .u8 (↑(UInt8.toNat c26) : Int)] (Prod.snd c12) fun v27 st28 _x => asI .i64 v27 fun n30 => some ([AV.bool (decide (n30 ≥ 0))], st28)) (some ([AV.bool false], Prod.snd c12))) fun c31 => unc (Prod.fst c31) fun v32 l33 => asB v32 fun b34 => un0 l33 (ifB b34 (letV (IntKind.wrap .i64 (n21 + 1)) fun n35 => some (Sum.inl ([AV.int .i64 n35, AV.int .u8 n15, AV.int .i64 n18], Prod.snd c31))) (uptoS n21 (List.length l11) fun k36 => letV (List.drop k36 (List.take (List.length l11) l11)) fun l37 => callS (orc vE) 74 [AV.str l37, AV.int .u8 34] (Prod.snd c31) fun v38 st39 _x => asI .i64 v38 fun n41 => ifB (decide (n41 ≥ 0)) (letV (IntKind.wrap .i64 (n21 + n41)) fun n42 => letV (IntKind.wrap .i64 (n42 + 1)) fun n43 => some (Sum.inr (Sum.inr (1, [AV.int .u8 9, AV.int .i64 n43], st39)))) (some (Sum.inr (Sum.inr (1, [AV.int .u8 9, AV.int .i64 (↑(List.length l11) : Int)], st39))))))) (some (Sum.inl ([AV.int .i64 n21, AV.int .u8 n15, AV.int .i64 n18], Prod.snd c12))))) fun c44 => onSum c44 fun c45 => unc (Prod.fst c45) fun v46 l47 => asI .i64 v46 fun n48 => unc l47 fun v49 l50 => asI .u8 v49 fun n51 => unc l50 fun v52 l53 => asI .i64 v52 fun n54 => un0 l53 (letV (IntKind.wrap .i64 (n48 + 1)) fun n55 => some (Sum.inl ([AV.int .u8 n51, AV.int .i64 n54, AV.int .i64 n55], Prod.snd c45)))) (some (Sum.inr (0, [AV.int .u8 n15, AV.int .i64 n18], Prod.snd c12))))
noncomputable def g57 : AV → Option AV := fun x0 => asS x0 fun l0 => idxStr l0 0 fun c1 => ifB ((↑(UInt8.toNat c1) : Int) != 34) (some (AV.tup [AV.int .u8 0, AV.int .i64 0])) (callS (orc vE) 74 [AV.str l0, AV.int .u8 10] (St.mk 0 0 Tr.leaf) fun v2 st3 _x => asI .i64 v2 fun n5 => bindO (ifB (decide (n5 ≥ 0)) (uptoS n5 (List.length l0) fun k6 => letV (List.drop 0 (List.take k6 l0)) fun l7 => some ([AV.str l7], st3)) (some ([AV.str l0], st3))) fun c8 => unc (Prod.fst c8) fun v9 l10 => asS v9 fun l11 => un0 l10 (bindO (loopO (g57_L1 l11) ([AV.int .u8 0, AV.int .i64 0, AV.int .i64 1], Prod.snd c8)) fun c56 => unc (Prod.fst (Prod.snd c56)) fun v57 l58 => asI .u8 v57 fun n59 => unc l58 fun v60 l61 => asI .i64 v60 fun n62 => un0 l61 (sel2 (Prod.fst c56) (some (AV.tup [AV.int .u8 9, AV.int .i64 (↑(List.length l11) : Int)])) fun _x => some (AV.tup [AV.int .u8 n59, AV.int .i64 n62]))))
theorem g57_eq (x0 : AV) : bareS vE 57 [x0] = g57 x0 := by kernel_rfl
noncomputable def g58 : AV → Option AV := fun x0 => asS x0 fun l0 => bindO (ifB (decide ((↑(List.length l0) : Int) > 1)) (chk (Nat.ble 2 (List.length l0)) (letV (List.drop 0 (List.take 2 l0)) fun l1 => bindO (ifB (l1 == [45, 62]) (some ([AV.bool (l1 == [45, 62])], St.mk 0 0 Tr.leaf)) (bindO (ifB (l1 == [58, 58]) (some ([AV.bool (l1 == [58, 58])], St.mk 0 0 Tr.leaf)) (bindO (ifB (l1 == [60, 62]) (some ([AV.bool (l1 == [60, 62])], St.mk 0 0 Tr.leaf)) (bindO (ifB (l1 == [60, 61]) (some ([AV.bool (l1 == [60, 61])], St.mk 0 0 Tr.leaf)) (bindO (ifB (l1 == [62, 61]) (some ([AV.bool (l1 == [62, 61])], St.mk 0 0 Tr.leaf)) (bindO (ifB (l1 == [43, 46]) (some ([AV.bool (l1 == [43, 46])], St.mk 0 0 Tr.leaf)) (bindO (ifB (l1 == [45, 46]) (some ([AV.bool (l1 == [45, 46])], St.mk 0 0 Tr.leaf)) (bindO (ifB (l1 == [42, 46]) (some ([AV.bool (l1 == [42, 46])], St.mk 0 0 Tr.leaf)) (bindO (ifB (l1 == [47, 46]) (some ([AV.bool (l1 == [47, 46])], St.mk 0 0 Tr.leaf)) (bindO (ifB (l1 == [38, 38]) (some ([AV.bool (l1 == [38, 38])], St.mk 0 0 Tr.leaf)) (some ([AV.bool (l1 == [124, 124])], St.mk 0 0 Tr.leaf))) fun c2 => unc (Prod.fst c2) fun v3 l4 => asB v3 fun b5 => un0 l4 (some ([AV.bool b5], Prod.snd c2)))) fun c6 => unc (Prod.fst c6) fun v7 l8 => asB v7 fun b9 => un0 l8 (some ([AV.bool b9], Prod.snd c6)))) fun c10 => unc (Prod.fst c10) fun v11 l12 => asB v11 fun b13 => un0 l12 (some ([AV.bool b13], Prod.snd c10)))) fun c14 => unc (Prod.fst c14) fun v15 l16 => asB v15 fun b17 => un0 l16 (some ([AV.bool b17], Prod.snd c14)))) fun c18 => unc (Prod.fst c18) fun v19 l20 => asB v19 fun b21 => un0 l20 (some ([AV.bool b21], Prod.snd c18)))) fun c22 => unc (Prod.fst c22) fun v23 l24 => asB v23 fun b25 => un0 l24 (some ([AV.bool b25], Prod.snd c22)))) fun c26 => unc (Prod.fst c26) fun v27 l28 => asB v27 fun b29 => un0 l28 (some ([AV.bool b29], Prod.snd c26)))) fun c30 => unc (Prod.fst c30) fun v31 l32 => asB v31 fun b33 => un0 l32 (some ([AV.bool b33], Prod.snd c30)))) fun c34 => unc (Prod.fst c34) fun v35 l36 => asB v35 fun b37 => un0 l36 (some ([AV.bool b37], Prod.snd c34)))) fun c38 => unc (Prod.fst c38) fun v39 l40 => asB v39 fun b41 => un0 l40 (ifB b41 (some (Sum.inr (AV.tup [AV.int .u8 8, AV.int .i64 2]))) (some (Sum.inl ([AV.int .u8 0, AV.int .i64 0], Prod.snd c38)))))) (some (Sum.inl ([AV.int .u8 0, AV.int .i64 0], St.mk 0 0 Tr.leaf)))) fun c42 => onSum c42 fun c43 => unc (Prod.fst c43) fun v44 l45 => asI .u8 v44 fun _x => unc l45 fun v47 l48 => asI .i64 v47 fun _x => un0 l48 (chk (Nat.ble 1 (List.length l0)) (letV (List.drop 0 (List.take 1 l0)) fun l50 => callS (orc vE) 69 [AV.str l50, AV.str [40, 41, 91, 93, 44, 59, 124, 61, 60, 62, 43, 45, 42, 47, 94, 64]] (Prod.snd c43) fun v51 _x _x_1 => asI .i64 v51 fun n54 => letV (if n54 < 1 then n54 else 1) fun n55 => some (AV.tup [AV.int .u8 8, AV.int .i64 n55])))
theorem g58_eq (x0 : AV) : bareS vE 58 [x0] = g58 x0 := by kernel_rfl
noncomputable def g59 : AV → Option AV := fun x0 => asS x0 fun l0 => callS (orc vE) 75 [AV.str l0] (St.mk 0 0 Tr.leaf) fun v1 _x _x_1 => unT v1 fun l4 => nthS l4 0 fun v5 => asI .i64 v5 fun _x => unT v1 fun l7 => nthS l7 1 fun v8 => asI .i64 v8 fun n9 => some (AV.tup [AV.int .u8 9, AV.int .i64 n9])
theorem g59_eq (x0 : AV) : bareS vE 59 [x0] = g59 x0 := by kernel_rfl
noncomputable def g62_L1 : Car → Option (Car ⊕ Nat × Car) := fun c1 => unc (Prod.fst c1) fun v2 l3 => asB v2 fun b4 => unc l3 fun v5 l6 => asS v5 fun l7 => un0 l6 (ifB (!l7 == []) (callS (orc vE) 77 [AV.str l7] (Prod.snd c1) fun v8 st9 _x => unT v8 fun l11 => nthS l11 0 fun v12 => asI .i64 v12 fun n13 => unT v8 fun l14 => nthS l14 1 fun v15 => asI .i64 v15 fun n16 => ifB (decide (n13 < 0)) (some (Sum.inr (1, [AV.bool false], st9))) (uptoS n16 (List.length l7) fun k17 => letV (List.drop k17 (List.take (List.length l7) l7)) fun l18 => some (Sum.inl ([AV.bool b4, AV.str l18], st9)))) (some (Sum.inr (0, [AV.bool b4], Prod.snd c1))))
noncomputable def g62 : AV → Option AV := fun x0 => asS x0 fun l0 => bindO (loopO g62_L1 ([AV.bool false, AV.str l0], St.mk 0 0 Tr.leaf)) fun c19 => unc (Prod.fst (Prod.snd c19)) fun v20 l21 => asB v20 fun b22 => un0 l21 (sel2 (Prod.fst c19) (some (AV.bool true)) fun _x => some (AV.bool b22))
theorem g62_eq (x0 : AV) : bareS vE 62 [x0] = g62 x0 := by kernel_rfl
noncomputable def g63_L1 (l0 : List UInt8) : Car → Option (Car ⊕ Nat × Car) := fun c6 => unc (Prod.fst c6) fun v7 l8 => asI .i64 v7 fun n9 => un0 l8 (callS (orc vE) 79 [AV.str l0, AV.int .i64 n9] (Prod.snd c6) fun v10 st11 _x => asI .u8 v10 fun n13 => callS (orc vE) 78 [AV.int .u8 n13] st11 fun v14 st15 _x => asB v14 fun b17 => ifB b17 (letV (IntKind.wrap .i64 (n9 + 1)) fun n18 => some (Sum.inl ([AV.int .i64 n18], st15))) (some (Sum.inr (0, [AV.int .i64 n9], st15))))
noncomputable def g63_L2 (l0 : List UInt8) : Car → Option (Car ⊕ Nat × Car) := fun c40 => unc (Prod.fst c40) fun v41 l42 => asI .i64 v41 fun n43 => un0 l42 (callS (orc vE) 79 [AV.str l0, AV.int .i64 n43] (Prod.snd c40) fun v44 st45 _x => asI .u8 v44 fun n47 => callS (orc vE) 83 [AV.int .u8 n47] st45 fun v48 st49 _x => asB v48 fun b51 => ifB b51 (letV (IntKind.wrap .i64 (n43 + 1)) fun n52 => some (Sum.inl ([AV.int .i64 n52], st49))) (some (Sum.inr (0, [AV.int .i64 n43], st49))))
noncomputable def g63_L3 (l0 : List UInt8) : Car → Option (Car ⊕ Nat × Car) := fun c87 => unc (Prod.fst c87) fun v88 l89 => asI .u8 v88 fun n90 => unc l89 fun v91 l92 => asI .i64 v91 fun n93 => unc l92 fun v94 l95 => asI .i64 v94 fun n96 => un0 l95 (ifB (decide (n96 < 11)) (idxA 1 (AV.sl 1 [AV.str [45, 62], AV.str [58, 58], AV.str [60, 62], AV.str [60, 61], AV.str [62, 61], AV.str [43, 46], AV.str [45, 46], AV.str [42, 46], AV.str [47, 46], AV.str [38, 38], AV.str [124, 124]] Perm.shut) n96 (Prod.snd c87) fun v97 _x => loadS 1 false v97 (Prod.snd c87) fun v99 _x => asS v99 fun l101 => callS (orc vE) 80 [AV.str l0, AV.int .i64 0, AV.str l101] (Prod.snd c87) fun v102 st103 _x => asB v102 fun b105 => ifB b105 (some (Sum.inr (1, [AV.int .u8 8, AV.int .i64 2], st103))) (letV (IntKind.wrap .i64 (n96 + 1)) fun n106 => some (Sum.inl ([AV.int .u8 n90, AV.int .i64 n93, AV.int .i64 n106], st103)))) (some (Sum.inr (0, [AV.int .u8 n90, AV.int .i64 n93], Prod.snd c87))))
noncomputable def g63_L4 (c1 : UInt8) : Car → Option (Car ⊕ Nat × Car) := fun c114 => unc (Prod.fst c114) fun v115 l116 => asI .u8 v115 fun n117 => unc l116 fun v118 l119 => asI .i64 v118 fun n120 => unc l119 fun v121 l122 => asI .i64 v121 fun n123 => un0 l122 (ifB (decide (n123 < 16)) (idxStr [40, 41, 91, 93, 44, 59, 124, 61, 60, 62, 43, 45, 42, 47, 94, 64] n123 fun c124 => ifB ((↑(UInt8.toNat c124) : Int) == (↑(UInt8.toNat c1) : Int)) (some (Sum.inr (1, [AV.int .u8 8, AV.int .i64 1], Prod.snd c114))) (letV (IntKind.wrap .i64 (n123 + 1)) fun n125 => some (Sum.inl ([AV.int .u8 n117, AV.int .i64 n120, AV.int .i64 n125], Prod.snd c114)))) (some (Sum.inr (0, [AV.int .u8 n117, AV.int .i64 n120], Prod.snd c114))))
noncomputable def g63 : AV → Option AV := fun x0 => asS x0 fun l0 => idxStr l0 0 fun c1 => callS (orc vE) 78 [AV.int .u8 (↑(UInt8.toNat c1) : Int)] (St.mk 0 0 Tr.leaf) fun v2 st3 _x => asB v2 fun b5 => ifB b5 (bindO (loopO (g63_L1 l0) ([AV.int .i64 0], st3)) fun c19 => unc (Prod.fst (Prod.snd c19)) fun v20 l21 => asI .i64 v20 fun n22 => un0 l21 (some (AV.tup [AV.int .u8 1, AV.int .i64 n22]))) (callS (orc vE) 80 [AV.str l0, AV.int .i64 0, AV.str [40, 42]] st3 fun v23 st24 _x => asB v23 fun b26 => ifB b26 (callS (orc vE) 81 [AV.str l0] st24 fun v27 _x _x_1 => unT v27 fun l30 => nthS l30 0 fun v31 => asI .i64 v31 fun n32 => unT v27 fun l33 => nthS l33 1 fun v34 => asB v34 fun b35 => ifB b35 (some (AV.tup [AV.int .u8 2, AV.int .i64 n32])) (some (AV.tup [AV.int .u8 9, AV.int .i64 n32]))) (callS (orc vE) 82 [AV.int .u8 (↑(UInt8.toNat c1) : Int)] st24 fun v36 st37 _x => asB v36 fun b39 => ifB b39 (bindO (loopO (g63_L2 l0) ([AV.int .i64 0], st37)) fun c53 => unc (Prod.fst (Prod.snd c53)) fun v54 l55 => asI .i64 v54 fun n56 => un0 l55 (uptoS n56 (List.length l0) fun k57 => letV (List.drop 0 (List.take k57 l0)) fun l58 => ifB (l58 == [95]) (some (AV.tup [AV.int .u8 8, AV.int .i64 1])) (uptoS n56 (List.length l0) fun k59 => letV (List.drop 0 (List.take k59 l0)) fun l60 => callS (orc vE) 84 [AV.str l60] (Prod.snd (Prod.snd c53)) fun v61 _x _x_1 => asB v61 fun b64 => ifB b64 (some (AV.tup [AV.int .u8 3, AV.int .i64 n56])) (some (AV.tup [AV.int .u8 4, AV.int .i64 n56]))))) (callS (orc vE) 85 [AV.int .u8 (↑(UInt8.toNat c1) : Int)] st37 fun v65 st66 _x => asB v65 fun b68 => ifB b68 (callS (orc vE) 86 [AV.str l0] st66 fun v69 _x _x_1 => unT v69 fun l72 => nthS l72 0 fun v73 => asI .u8 v73 fun n74 => unT v69 fun l75 => nthS l75 1 fun v76 => asI .i64 v76 fun n77 => some (AV.tup [AV.int .u8 n74, AV.int .i64 n77])) (ifB ((↑(UInt8.toNat c1) : Int) == 34) (callS (orc vE) 87 [AV.str l0] st66 fun v78 _x _x_1 => unT v78 fun l81 => nthS l81 0 fun v82 => asI .u8 v82 fun n83 => unT v78 fun l84 => nthS l84 1 fun v85 => asI .i64 v85 fun n86 => some (AV.tup [AV.int .u8 n83, AV.int .i64 n86])) (bindO (loopO (g63_L3 l0) ([AV.int .u8 0, AV.int .i64 0, AV.int .i64 0], st66)) fun c107 => unc (Prod.fst (Prod.snd c107)) fun v108 l109 => asI .u8 v108 fun n110 => unc l109 fun v111 l112 => asI .i64 v111 fun n113 => un0 l112 (sel2 (Prod.fst c107) (bindO (loopO (g63_L4 c1) ([AV.int .u8 n110, AV.int .i64 n113, AV.int .i64 0], Prod.snd (Prod.snd c107))) fun c126 => unc (Prod.fst (Prod.snd c126)) fun v127 l128 => asI .u8 v127 fun n129 => unc l128 fun v130 l131 => asI .i64 v130 fun n132 => un0 l131 (sel2 (Prod.fst c126) (callS (orc vE) 77 [AV.str l0] (Prod.snd (Prod.snd c126)) fun v133 _x _x_1 => unT v133 fun l136 => nthS l136 0 fun v137 => asI .i64 v137 fun _x => unT v133 fun l139 => nthS l139 1 fun v140 => asI .i64 v140 fun n141 => some (AV.tup [AV.int .u8 9, AV.int .i64 n141])) fun _x => some (AV.tup [AV.int .u8 n129, AV.int .i64 n132]))) fun _x => some (AV.tup [AV.int .u8 n110, AV.int .i64 n113])))))))
theorem g63_eq (x0 : AV) : bareS vE 63 [x0] = g63 x0 := by kernel_rfl
noncomputable def g66 : AV → Option AV := fun x0 => asS x0 fun l0 => callS (orc vE) 34 [AV.str l0] (St.mk 1 0 (Tr.node (some (VM.Obj.cells 23 [AV.int .u8 0, AV.str []])) Tr.leaf Tr.leaf)) fun v1 st2 _x => unT v1 fun l4 => nthS l4 0 fun v5 => unT v1 fun l6 => nthS l6 1 fun v7 => asI .i64 v7 fun n8 => ifB (n8 != 0) (storeS (orc vE) 2 (AV.mp 0 0) (AV.agg [AV.int .u8 0, AV.str []]) [AV.int .u8 0, AV.str []] st2 fun _x st11 _x_1 => loadS 2 true (AV.mp 0 0) st11 fun v13 _x => unK v13 fun n19 l22 => (some (AV.tup [AV.agg [AV.int .u8 n19, AV.str l22], AV.int .i64 n8]))) (lenS v5 fun k23 => ifB ((↑k23 : Int) != 1) (storeS (orc vE) 2 (AV.mp 0 0) (AV.agg [AV.int .u8 0, AV.str []]) [AV.int .u8 0, AV.str []] st2 fun _x st26 _x_1 => loadS 2 true (AV.mp 0 0) st26 fun v28 _x => unK v28 fun n34 l37 => (some (AV.tup [AV.agg [AV.int .u8 n34, AV.str l37], AV.int .i64 4]))) (idxA 2 v5 0 st2 fun v38 _x => loadS 2 true v38 st2 fun v40 _x => unK v40 fun n46 l49 => (storeS (orc vE) 2 (AV.mp 0 0) (AV.agg [AV.int .u8 n46, AV.str l49]) [AV.int .u8 n46, AV.str l49] st2 fun _x st51 _x_1 => loadS 2 true (AV.mp 0 0) st51 fun v53 _x => unK v53 fun n59 l62 => (some (AV.tup [AV.agg [AV.int .u8 n59, AV.str l62], AV.int .i64 0])))))
theorem g66_eq (x0 : AV) : bareS vE 66 [x0] = g66 x0 := by kernel_rfl
noncomputable def g67_L1 (x0 : AV) (x1 : AV) (k0 : Nat) : Car → Option (Car ⊕ Nat × Car) := fun c1 => unc (Prod.fst c1) fun v2 l3 => asI .i64 v2 fun n4 => unc l3 fun v5 l6 => asI .i64 v5 fun n7 => un0 l6 (ifB (decide (n7 < (↑k0 : Int))) (idxA 4 x0 n7 (Prod.snd c1) fun v8 _x => loadS 4 true v8 (Prod.snd c1) fun v10 _x => unF v10 fun n16 n19 l22 v23 => (callF (orc vE) (Sx.prim (sx vE 67)) x1 [AV.agg [AV.int .u8 n16, AV.int .u8 n19, AV.str l22, v23]] (Prod.snd c1) fun v25 st26 _x => asB v25 fun b28 => ifB b28 (some (Sum.inr (1, [AV.int .i64 n7], st26))) (letV (IntKind.wrap .i64 (n7 + 1)) fun n29 => some (Sum.inl ([AV.int .i64 n4, AV.int .i64 n29], st26))))) (some (Sum.inr (0, [AV.int .i64 n4], Prod.snd c1))))
noncomputable def g67 : AV → AV → Option AV := fun x0 x1 => lenS x0 fun k0 => bindO (loopO (g67_L1 x0 x1 k0) ([AV.int .i64 0, AV.int .i64 0], St.mk 0 0 Tr.leaf)) fun c30 => unc (Prod.fst (Prod.snd c30)) fun v31 l32 => asI .i64 v31 fun n33 => un0 l32 (sel2 (Prod.fst c30) (some (AV.int .i64 (-1))) fun _x => some (AV.int .i64 n33))
theorem g67_eq (x0 x1 : AV) : bareS vE 67 [x0, x1] = g67 x0 x1 := by kernel_rfl
noncomputable def g69 : AV → AV → Option AV := fun x0 x1 => asS x0 fun l0 => asS x1 fun l1 => planS (orc vE) (primP (Prim.lib libTrimLeft) [AV.str l0, AV.str l1]) (St.mk 0 0 Tr.leaf) fun v2 _x _x_1 => asS v2 fun l5 => letV (IntKind.wrap .i64 ((↑(List.length l0) : Int) - (↑(List.length l5) : Int))) fun n6 => some (AV.int .i64 n6)
theorem g69_eq (x0 x1 : AV) : bareS vE 69 [x0, x1] = g69 x0 x1 := by kernel_rfl
noncomputable def g70 : AV → AV → Option AV := fun x0 x1 => asS x0 fun l0 => asS x1 fun l1 => callS (orc vE) 91 [AV.str l0, AV.str l1] (St.mk 0 0 Tr.leaf) fun v2 _x _x_1 => asB v2 fun b5 => some (AV.bool b5)
theorem g70_eq (x0 x1 : AV) : bareS vE 70 [x0, x1] = g70 x0 x1 := by kernel_rfl
noncomputable def g73 : AV → AV → Option AV := fun x0 x1 => asS x0 fun l0 => asS x1 fun l1 => callS (orc vE) 95 [AV.str l0, AV.str l1] (St.mk 0 0 Tr.leaf) fun v2 _x _x_1 => asS v2 fun l5 => some (AV.str l5)
theorem g73_eq (x0 x1 : AV) : bareS vE 73 [x0, x1] = g73 x0 x1 := by kernel_rfl
noncomputable def g74 : AV → AV → Option AV := fun x0 x1 => asS x0 fun l0 => asI .u8 x1 fun n1 => callS (orc vE) 96 [AV.str l0, AV.int .u8 n1] (St.mk 0 0 Tr.leaf) fun v2 _x _x_1 => asI .i64 v2 fun n5 => some (AV.int .i64 n5)
theorem g74_eq (x0 x1 : AV) : bareS vE 74 [x0, x1] = g74 x0 x1 := by kernel_rfl
noncomputable def g75 : AV → Option AV := fun x0 => asS x0 fun l0 => ifB (l0 == []) (some (AV.tup [AV.int .i64 (-1), AV.int .i64 0])) (planS (orc vE) (primP (Prim.lib libDecode) [AV.str l0]) (St.mk 0 0 Tr.leaf) fun v1 st2 _x => unT v1 fun l4 => nthS l4 0 fun v5 => asI .i32 v5 fun n6 => unT v1 fun l7 => nthS l7 1 fun v8 => asI .i64 v8 fun n9 => bindO (ifB (n6 == 65533) (some ([AV.bool (decide (n9 < 2))], st2)) (some ([AV.bool false], st2))) fun c10 => unc (Prod.fst c10) fun v11 l12 => asB v11 fun b13 => un0 l12 (ifB b13 (some (AV.tup [AV.int .i64 (-1), AV.int .i64 1])) (letV (IntKind.wrap .i64 n6) fun n14 => some (AV.tup [AV.int .i64 n14, AV.int .i64 n9]))))
theorem g75_eq (x0 : AV) : bareS vE 75 [x0] = g75 x0 := by kernel_rfl
noncomputable def g77_L1 (l0 : List UInt8) : Car → Option (Car ⊕ Nat × Car) := fun c1 => unc (Prod.fst c1) fun v2 l3 => asI .i64 v2 fun n4 => unc l3 fun v5 l6 => asI .i64 v5 fun n7 => unc l6 fun v8 l9 => asI .i64 v8 fun n10 => un0 l9 (bindO (ifB (decide (n10 ≤ 4)) (some ([AV.bool (decide (n10 ≤ (↑(List.length l0) : Int)))], Prod.snd c1)) (some ([AV.bool false], Prod.snd c1))) fun c11 => unc (Prod.fst c11) fun v12 l13 => asB v12 fun b14 => un0 l13 (ifB b14 (uptoS n10 (List.length l0) fun k15 => letV (List.drop 0 (List.take k15 l0)) fun l16 => callS (orc vE) 98 [AV.str l16] (Prod.snd c11) fun v17 st18 _x => asI .i64 v17 fun n20 => bindO (ifB (decide (n20 ≥ 0)) (callS (orc vE) 99 [AV.int .i64 n20] st18 fun v21 st22 x23 => asS v21 fun l24 => chk (apart x23 (Fx.mk [] Did.kept) && true) (chk (apart x23 (Fx.mk [] Did.kept) && true) (uptoS n10 (List.length l0) fun k25 => letV (List.drop 0 (List.take k25 l0)) fun l26 => chk (apart x23 (Fx.mk [] Did.kept) && true) (some ([AV.bool (l24 == l26)], st22))))) (some ([AV.bool false], st18))) fun c27 => unc (Prod.fst c27) fun v28 l29 => asB v28 fun b30 => un0 l29 (ifB b30 (some (Sum.inr (1, [AV.int .i64 n20, AV.int .i64 n10], Prod.snd c27))) (letV (IntKind.wrap .i64 (n10 + 1)) fun n31 => some (Sum.inl ([AV.int .i64 n4, AV.int .i64 n7, AV.int .i64 n31], Prod.snd c27))))) (some (Sum.inr (0, [AV.int .i64 n4, AV.int .i64 n7], Prod.snd c11)))))
noncomputable def g77 : AV → Option AV := fun x0 => asS x0 fun l0 => ifB (l0 == []) (some (AV.tup [AV.int .i64 (-1), AV.int .i64 0])) (bindO (loopO (g77_L1 l0) ([AV.int .i64 0, AV.int .i64 0, AV.int .i64 1], St.mk 0 0 Tr.leaf)) fun c32 => unc (Prod.fst (Prod.snd c32)) fun v33 l34 => asI .i64 v33 fun n35 => unc l34 fun v36 l37 => asI .i64 v36 fun n38 => un0 l37 (sel2 (Prod.fst c32) (some (AV.tup [AV.int .i64 (-1), AV.int .i64 1])) fun _x => some (AV.tup [AV.int .i64 n35, AV.int .i64 n38])))
theorem g77_eq (x0 : AV) : bareS vE 77 [x0] = g77 x0 := by kernel_rfl
noncomputable def g78 : AV → Option AV := fun x0 => asI .u8 x0 fun n0 => bindO (ifB (n0 == 32) (some ([AV.bool true], St.mk 0 0 Tr.leaf)) (ifB (n0 == 9) (some ([AV.bool true], St.mk 0 0 Tr.leaf)) (ifB (n0 == 10) (some ([AV.bool true], St.mk 0 0 Tr.leaf)) (some ([AV.bool (n0 == 13)], St.mk 0 0 Tr.leaf))))) fun c1 => unc (Prod.fst c1) fun v2 l3 => asB v2 fun b4 => un0 l3 (some (AV.bool b4))
theorem g78_eq (x0 : AV) : bareS vE 78 [x0] = g78 x0 := by kernel_rfl
noncomputable def g79 : AV → AV → Option AV := fun x0 x1 => asS x0 fun l0 => asI .i64 x1 fun n1 => bindO (ifB (decide (n1 < 0)) (some ([AV.bool true], St.mk 0 0 Tr.leaf)) (some ([AV.bool (decide (n1 ≥ (↑(List.length l0) : Int)))], St.mk 0 0 Tr.leaf))) fun c2 => unc (Prod.fst c2) fun v3 l4 => asB v3 fun b5 => un0 l4 (ifB b5 (some (AV.int .u8 0)) (idxStr l0 n1 fun c6 => some (AV.int .u8 (↑(UInt8.toNat c6) : Int))))
theorem g79_eq (x0 x1 : AV) : bareS vE 79 [x0, x1] = g79 x0 x1 := by kernel_rfl
noncomputable def g80 : AV → AV → AV → Option AV := fun x0 x1 x2 => asS x0 fun l0 => asI .i64 x1 fun n1 => asS x2 fun l2 => bindO (letV (IntKind.wrap .i64 (n1 + 2)) fun n3 => ifB (decide (n3 ≤ (↑(List.length l0) : Int))) (letV (IntKind.wrap .i64 (n1 + 2)) fun n4 => uptoS n4 (List.length l0) fun k5 => uptoS n1 k5 fun k6 => letV (List.drop k6 (List.take k5 l0)) fun l7 => some ([AV.bool (l7 == l2)], St.mk 0 0 Tr.leaf)) (some ([AV.bool false], St.mk 0 0 Tr.leaf))) fun c8 => unc (Prod.fst c8) fun v9 l10 => asB v9 fun b11 => un0 l10 (some (AV.bool b11))
theorem g80_eq (x0 x1 x2 : AV) : bareS vE 80 [x0, x1, x2] = g80 x0 x1 x2 := by kernel_rfl
noncomputable def g81_L1 (l0 : List UInt8) : Car → Option (Car ⊕ Nat × Car) := fun c1 => unc (Prod.fst c1) fun v2 l3 => asI .i64 v2 fun n4 => unc l3 fun v5 l6 => asI .i64 v5 fun n7 => unc l6 fun v8 l9 => asB v8 fun b10 => unc l9 fun v11 l12 => asI .i64 v11 fun n13 => un0 l12 (ifB (decide (n13 < (↑(List.length l0) : Int))) (callS (orc vE) 80 [AV.str l0, AV.int .i64 n13, AV.str [40, 42]] (Prod.snd c1) fun v14 st15 _x => asB v14 fun b17 => bindO (ifB b17 (letV (IntKind.wrap .i64 (n4 + 1)) fun n18 => letV (IntKind.wrap .i64 (n13 + 2)) fun n19 => some (Sum.inl ([AV.int .i64 n18, AV.int .i64 n7, AV.bool b10, AV.int .i64 n19], st15))) (callS (orc vE) 80 [AV.str l0, AV.int .i64 n13, AV.str [42, 41]] st15 fun v20 st21 _x => asB v20 fun b23 => bindO (ifB b23 (letV (IntKind.wrap .i64 (n4 - 1)) fun n24 => letV (IntKind.wrap .i64 (n13 + 2)) fun n25 => ifB (n24 == 0) (some (Sum.inr (Sum.inr (Sum.inr (1, [AV.int .i64 n25, AV.bool true], st21))))) (some (Sum.inl ([AV.int .i64 n24, AV.int .i64 n7, AV.bool b10, AV.int .i64 n25], st21)))) (letV (IntKind.wrap .i64 (n13 + 1)) fun n26 => some (Sum.inl ([AV.int .i64 n4, AV.int .i64 n7, AV.bool b10, AV.int .i64 n26], st21)))) fun c27 => onSum c27 fun c28 => unc (Prod.fst c28) fun v29 l30 => asI .i64 v29 fun n31 => unc l30 fun v32 l33 => asI .i64 v32 fun n34 => unc l33 fun v35 l36 => asB v35 fun b37 => unc l36 fun v38 l39 => asI .i64 v38 fun n40 => un0 l39 (some (Sum.inl ([AV.int .i64 n31, AV.int .i64 n34, AV.bool b37, AV.int .i64 n40], Prod.snd c28))))) fun c41 => onSum c41 fun c42 => unc (Prod.fst c42) fun v43 l44 => asI .i64 v43 fun n45 => unc l44 fun v46 l47 => asI .i64 v46 fun n48 => unc l47 fun v49 l50 => asB v49 fun b51 => unc l50 fun v52 l53 => asI .i64 v52 fun n54 => un0 l53 (some (Sum.inl ([AV.int .i64 n45, AV.int .i64 n48, AV.bool b51, AV.int .i64 n54], Prod.snd c42)))) (some (Sum.inr (0, [AV.int .i64 n7, AV.bool b10], Prod.snd c1))))
noncomputable def g81 : AV → Option AV := fun x0 => asS x0 fun l0 => bindO (loopO (g81_L1 l0) ([AV.int .i64 1, AV.int .i64 0, AV.bool false, AV.int .i64 2], St.mk 0 0 Tr.leaf)) fun c55 => unc (Prod.fst (Prod.snd c55)) fun v56 l57 => asI .i64 v56 fun n58 => unc l57 fun v59 l60 => asB v59 fun b61 => un0 l60 (sel2 (Prod.fst c55) (some (AV.tup [AV.int .i64 (↑(List.length l0) : Int), AV.bool false])) fun _x => some (AV.tup [AV.int .i64 n58, AV.bool b61]))
theorem g81_eq (x0 : AV) : bareS vE 81 [x0] = g81 x0 := by kernel_rfl
noncomputable def g82 : AV → Option AV := fun x0 => asI .u8 x0 fun n0 => bindO (ifB (decide (n0 ≥ 97)) (ifB (decide (n0 ≤ 122)) (some ([AV.bool true], St.mk 0 0 Tr.leaf)) (some ([AV.bool (n0 == 95)], St.mk 0 0 Tr.leaf))) (some ([AV.bool (n0 == 95)], St.mk 0 0 Tr.leaf))) fun c1 => unc (Prod.fst c1) fun v2 l3 => asB v2 fun b4 => un0 l3 (some (AV.bool b4))
theorem g82_eq (x0 : AV) : bareS vE 82 [x0] = g82 x0 := by kernel_rfl
noncomputable def g83 : AV → Option AV := fun x0 => asI .u8 x0 fun n0 => bindO (callS (orc vE) 82 [AV.int .u8 n0] (St.mk 0 0 Tr.leaf) fun v1 st2 _x => asB v1 fun b4 => ifB b4 (some ([AV.bool true], st2)) (callS (orc vE) 85 [AV.int .u8 n0] st2 fun v5 st6 _x => asB v5 fun b8 => ifB b8 (some ([AV.bool true], st6)) (ifB (decide (n0 ≥ 65)) (ifB (decide (n0 ≤ 90)) (some ([AV.bool true], st6)) (some ([AV.bool (n0 == 39)], st6))) (some ([AV.bool (n0 == 39)], st6))))) fun c9 => unc (Prod.fst c9) fun v10 l11 => asB v10 fun b12 => un0 l11 (some (AV.bool b12))
theorem g83_eq (x0 : AV) : bareS vE 83 [x0] = g83 x0 := by kernel_rfl
noncomputable def g84_L1 (l0 : List UInt8) : Car → Option (Car ⊕ Nat × Car) := fun c1 => unc (Prod.fst c1) fun v2 l3 => asB v2 fun b4 => unc l3 fun v5 l6 => asI .i64 v5 fun n7 => un0 l6 (ifB (decide (n7 < 12)) (idxA 1 (AV.sl 1 [AV.str [108, 101, 116], AV.str [114, 101, 99], AV.str [105, 110], AV.str [102, 117, 110], AV.str [105, 102], AV.str [116, 104, 101, 110], AV.str [101, 108, 115, 101], AV.str [109, 97, 116, 99, 104], AV.str [119, 105, 116, 104], AV.str [116, 114, 117, 101], AV.str [102, 97, 108, 115, 101], AV.str [109, 111, 100]] Perm.shut) n7 (Prod.snd c1) fun v8 _x => loadS 1 false v8 (Prod.snd c1) fun v10 _x => asS v10 fun l12 => ifB (l12 == l0) (some (Sum.inr (1, [AV.bool true], Prod.snd c1))) (letV (IntKind.wrap .i64 (n7 + 1)) fun n13 => some (Sum.inl ([AV.bool b4, AV.int .i64 n13], Prod.snd c1)))) (some (Sum.inr (0, [AV.bool b4], Prod.snd c1))))
noncomputable def g84 : AV → Option AV := fun x0 => asS x0 fun l0 => bindO (loopO (g84_L1 l0) ([AV.bool false, AV.int .i64 0], St.mk 0 0 Tr.leaf)) fun c14 => unc (Prod.fst (Prod.snd c14)) fun v15 l16 => asB v15 fun b17 => un0 l16 (sel2 (Prod.fst c14) (some (AV.bool false)) fun _x => some (AV.bool b17))
theorem g84_eq (x0 : AV) : bareS vE 84 [x0] = g84 x0 := by kernel_rfl
noncomputable def g85 : AV → Option AV := fun x0 => asI .u8 x0 fun n0 => bindO (ifB (decide (n0 ≥ 48)) (some ([AV.bool (decide (n0 ≤ 57))], St.mk 0 0 Tr.leaf)) (some ([AV.bool false], St.mk 0 0 Tr.leaf))) fun c1 => unc (Prod.fst c1) fun v2 l3 => asB v2 fun b4 => un0 l3 (some (AV.bool b4))
theorem g85_eq (x0 : AV) : bareS vE 85 [x0] = g85 x0 := by kernel_rfl
noncomputable def g86_L1 (l0 : List UInt8) : Car → Option (Car ⊕ Nat × Car) := fun c1 => unc (Prod.fst c1) fun v2 l3 => asI .i64 v2 fun n4 => un0 l3 (callS (orc vE) 79 [AV.str l0, AV.int .i64 n4] (Prod.snd c1) fun v5 st6 _x => asI .u8 v5 fun n8 => callS (orc vE) 85 [AV.int .u8 n8] st6 fun v9 st10 _x => asB v9 fun b12 => ifB b12 (letV (IntKind.wrap .i64 (n4 + 1)) fun n13 => some (Sum.inl ([AV.int .i64 n13], st10))) (some (Sum.inr (0, [AV.int .i64 n4], st10))))
noncomputable def g86_L2 (l0 : List UInt8) : Car → Option (Car ⊕ Nat × Car) := fun c23 => unc (Prod.fst c23) fun v24 l25 => asI .i64 v24 fun n26 => un0 l25 (callS (orc vE) 79 [AV.str l0, AV.int .i64 n26] (Prod.snd c23) fun v27 st28 _x => asI .u8 v27 fun n30 => callS (orc vE) 85 [AV.int .u8 n30] st28 fun v31 st32 _x => asB v31 fun b34 => ifB b34 (letV (IntKind.wrap .i64 (n26 + 1)) fun n35 => some (Sum.inl ([AV.int .i64 n35], st32))) (some (Sum.inr (0, [AV.int .i64 n26], st32))))
noncomputable def g86_L3 (l0 : List UInt8) : Car → Option (Car ⊕ Nat × Car) := fun c73 => unc (Prod.fst c73) fun v74 l75 => asI .i64 v74 fun n76 => unc l75 fun v77 l78 => asI .i64 v77 fun n79 => un0 l78 (callS (orc vE) 79 [AV.str l0, AV.int .i64 n79] (Prod.snd c73) fun v80 st81 _x => asI .u8 v80 fun n83 => callS (orc vE) 85 [AV.int .u8 n83] st81 fun v84 st85 _x => asB v84 fun b87 => ifB b87 (letV (IntKind.wrap .i64 (n76 * 10)) fun n88 => idxStr l0 n79 fun c89 => letV (IntKind.wrap .i64 (↑(UInt8.toNat c89) : Int)) fun n90 => letV (IntKind.wrap .i64 (n88 + n90)) fun n91 => letV (IntKind.wrap .i64 (n91 - 48)) fun n92 => letV (if 1000000 < n92 then 1000000 else n92) fun n93 => letV (IntKind.wrap .i64 (n79 + 1)) fun n94 => some (Sum.inl ([AV.int .i64 n93, AV.int .i64 n94], st85))) (some (Sum.inr (0, [AV.int .i64 n76, AV.int .i64 n79], st85))))
noncomputable def g86 : AV → Option AV := fun x0 => asS x0 fun l0 => bindO (loopO (g86_L1 l0) ([AV.int .i64 0], St.mk 0 0 Tr.leaf)) fun c14 => unc (Prod.fst (Prod.snd c14)) fun v15 l16 => asI .i64 v15 fun n17 => un0 l16 (callS (orc vE) 79 [AV.str l0, AV.int .i64 n17] (Prod.snd (Prod.snd c14)) fun v18 st19 _x => asI .u8 v18 fun n21 => ifB (n21 != 46) (some (AV.tup [AV.int .u8 5, AV.int .i64 n17])) (letV (IntKind.wrap .i64 (n17 + 1)) fun n22 => bindO (loopO (g86_L2 l0) ([AV.int .i64 n22], st19)) fun c36 => unc (Prod.fst (Prod.snd c36)) fun v37 l38 => asI .i64 v37 fun n39 => un0 l38 (letV (IntKind.wrap .i64 (n17 + 1)) fun n40 => letV (IntKind.wrap .i64 (n40 - n39)) fun n41 => letV (IntKind.wrap .i64 (n39 - 1)) fun n42 => bindO (callS (orc vE) 79 [AV.str l0, AV.int .i64 n39] (Prod.snd (Prod.snd c36)) fun v43 st44 _x => asI .u8 v43 fun n46 => ifB (n46 == 101) (some ([AV.bool true], st44)) (callS (orc vE) 79 [AV.str l0, AV.int .i64 n39] st44 fun v47 st48 _x => asI .u8 v47 fun n50 => some ([AV.bool (n50 == 69)], st48))) fun c51 => unc (Prod.fst c51) fun v52 l53 => asB v52 fun b54 => un0 l53 (bindO (ifB b54 (letV (IntKind.wrap .i64 (n39 + 1)) fun n55 => callS (orc vE) 79 [AV.str l0, AV.int .i64 n55] (Prod.snd c51) fun v56 st57 _x => asI .u8 v56 fun n59 => bindO (ifB (n59 == 45) (some ([AV.bool true], st57)) (callS (orc vE) 79 [AV.str l0, AV.int .i64 n55] st57 fun v60 st61 _x => asI .u8 v60 fun n63 => some ([AV.bool (n63 == 43)], st61))) fun c64 => unc (Prod.fst c64) fun v65 l66 => asB v65 fun b67 => un0 l66 (bindO (ifB b67 (letV (IntKind.wrap .i64 (n55 + 1)) fun n68 => some ([AV.int .i64 n68], Prod.snd c64)) (some ([AV.int .i64 n55], Prod.snd c64))) fun c69 => unc (Prod.fst c69) fun v70 l71 => asI .i64 v70 fun n72 => un0 l71 (bindO (loopO (g86_L3 l0) ([AV.int .i64 0, AV.int .i64 n72], Prod.snd c69)) fun c95 => unc (Prod.fst (Prod.snd c95)) fun v96 l97 => asI .i64 v96 fun n98 => unc l97 fun v99 l100 => asI .i64 v99 fun n101 => un0 l100 (bindO (ifB (decide (n101 > n72)) (bindO (ifB (n59 == 45) (letV (IntKind.wrap .i64 (0 - n98)) fun n102 => some ([AV.int .i64 n102], Prod.snd (Prod.snd c95))) (some ([AV.int .i64 n98], Prod.snd (Prod.snd c95)))) fun c103 => unc (Prod.fst c103) fun v104 l105 => asI .i64 v104 fun n106 => un0 l105 (letV (IntKind.wrap .i64 (n41 + n106)) fun n107 => some ([AV.int .i64 n101, AV.int .i64 n107], Prod.snd c103))) (some ([AV.int .i64 n39, AV.int .i64 n41], Prod.snd (Prod.snd c95)))) fun c108 => unc (Prod.fst c108) fun v109 l110 => asI .i64 v109 fun n111 => unc l110 fun v112 l113 => asI .i64 v112 fun n114 => un0 l113 (some ([AV.int .i64 n111, AV.int .i64 n114], Prod.snd c108)))))) (some ([AV.int .i64 n39, AV.int .i64 n41], Prod.snd c51))) fun c115 => unc (Prod.fst c115) fun v116 l117 => asI .i64 v116 fun n118 => unc l117 fun v119 l120 => asI .i64 v119 fun n121 => un0 l120 (bindO (ifB (decide (n42 > 15)) (some ([AV.bool true], Prod.snd c115)) (ifB (decide (n121 < -22)) (some ([AV.bool true], Prod.snd c115)) (some ([AV.bool (decide (n121 > 22))], Prod.snd c115)))) fun c122 => unc (Prod.fst c122) fun v123 l124 => asB v123 fun b125 => un0 l124 (ifB b125 (some (AV.tup [AV.int .u8 9, AV.int .i64 n118])) (some (AV.tup [AV.int .u8 6, AV.int .i64 n118]))))))))
theorem g86_eq (x0 : AV) : bareS vE 86 [x0] = g86 x0 := by kernel_rfl
noncomputable def g87_L1 (l0 : List UInt8) : Car → Option (Car ⊕ Nat × Car) := fun c1 => unc (Prod.fst c1) fun v2 l3 => asI .u8 v2 fun n4 => unc l3 fun v5 l6 => asI .i64 v5 fun n7 => unc l6 fun v8 l9 => asB v8 fun b10 => unc l9 fun v11 l12 => asI .i64 v11 fun n13 => un0 l12 (bindO (ifB (decide (n13 < (↑(List.length l0) : Int))) (idxStr l0 n13 fun c14 => some ([AV.bool ((↑(UInt8.toNat c14) : Int) != 10)], Prod.snd c1)) (some ([AV.bool false], Prod.snd c1))) fun c15 => unc (Prod.fst c15) fun v16 l17 => asB v16 fun b18 => un0 l17 (ifB b18 (idxStr l0 n13 fun c19 => ifB ((↑(UInt8.toNat c19) : Int) == 34) (ifB b10 (letV (IntKind.wrap .i64 (n13 + 1)) fun n20 => some (Sum.inr (1, [AV.int .u8 9, AV.int .i64 n20, AV.int .i64 n13], Prod.snd c15))) (letV (IntKind.wrap .i64 (n13 + 1)) fun n21 => some (Sum.inr (1, [AV.int .u8 7, AV.int .i64 n21, AV.int .i64 n13], Prod.snd c15)))) (bindO (idxStr l0 n13 fun c22 => ifB ((↑(UInt8.toNat c22) : Int) == 92) (some ([AV.bool !b10], Prod.snd c15)) (some ([AV.bool false], Prod.snd c15))) fun c23 => unc (Prod.fst c23) fun v24 l25 => asB v24 fun b26 => un0 l25 (bindO (ifB b26 (letV (IntKind.wrap .i64 (n13 + 1)) fun n27 => callS (orc vE) 79 [AV.str l0, AV.int .i64 n27] (Prod.snd c23) fun v28 st29 _x => asI .u8 v28 fun n31 => bindO (ifB (n31 == 110) (some ([AV.bool true], st29)) (ifB (n31 == 116) (some ([AV.bool true], st29)) (ifB (n31 == 92) (some ([AV.bool true], st29)) (some ([AV.bool (n31 == 34)], st29))))) fun c32 => unc (Prod.fst c32) fun v33 l34 => asB v33 fun b35 => un0 l34 (bindO (ifB b35 (letV (IntKind.wrap .i64 (n13 + 1)) fun n36 => some ([AV.int .i64 n36, AV.bool b10], Prod.snd c32)) (some ([AV.int .i64 n13, AV.bool true], Prod.snd c32))) fun c37 => unc (Prod.fst c37) fun v38 l39 => asI .i64 v38 fun n40 => unc l39 fun v41 l42 => asB v41 fun b43 => un0 l42 (some ([AV.int .i64 n40, AV.bool b43], Prod.snd c37)))) (some ([AV.int .i64 n13, AV.bool b10], Prod.snd c23))) fun c44 => unc (Prod.fst c44) fun v45 l46 => asI .i64 v45 fun n47 => unc l46 fun v48 l49 => asB v48 fun b50 => un0 l49 (letV (IntKind.wrap .i64 (n47 + 1)) fun n51 => some (Sum.inl ([AV.int .u8 n4, AV.int .i64 n7, AV.bool b50, AV.int .i64 n51], Prod.snd c44)))))) (some (Sum.inr (0, [AV.int .u8 n4, AV.int .i64 n7, AV.int .i64 n13], Prod.snd c15)))))
noncomputable def g87 : AV → Option AV := fun x0 => asS x0 fun l0 => bindO (loopO (g87_L1 l0) ([AV.int .u8 0, AV.int .i64 0, AV.bool false, AV.int .i64 1], St.mk 0 0 Tr.leaf)) fun c52 => unc (Prod.fst (Prod.snd c52)) fun v53 l54 => asI .u8 v53 fun n55 => unc l54 fun v56 l57 => asI .i64 v56 fun n58 => unc l57 fun v59 l60 => asI .i64 v59 fun n61 => un0 l60 (sel2 (Prod.fst c52) (some (AV.tup [AV.int .u8 9, AV.int .i64 n61])) fun _x => some (AV.tup [AV.int .u8 n55, AV.int .i64 n58]))
theorem g87_eq (x0 : AV) : bareS vE 87 [x0] = g87 x0 := by kernel_rfl
noncomputable def g91 : AV → AV → Option AV := fun x0 x1 => asS x0 fun l0 => asS x1 fun l1 => bindO (ifB (decide ((↑(List.length l0) : Int) ≥ (↑(List.length l1) : Int))) (chk (Nat.ble (List.length l1) (List.length l0)) (letV (List.drop 0 (List.take (List.length l1) l0)) fun l2 => some ([AV.bool (l2 == l1)], St.mk 0 0 Tr.leaf))) (some ([AV.bool false], St.mk 0 0 Tr.leaf))) fun c3 => unc (Prod.fst c3) fun v4 l5 => asB v4 fun b6 => un0 l5 (some (AV.bool b6))
theorem g91_eq (x0 x1 : AV) : bareS vE 91 [x0, x1] = g91 x0 x1 := by kernel_rfl
noncomputable def g95 : AV → AV → Option AV := fun x0 x1 => asS x0 fun l0 => asS x1 fun l1 => callS (orc vE) 91 [AV.str l0, AV.str l1] (St.mk 0 0 Tr.leaf) fun v2 _x _x_1 => asB v2 fun b5 => ifB b5 (chk (Nat.ble (List.length l1) (List.length l0)) (letV (List.drop (List.length l1) (List.take (List.length l0) l0)) fun l6 => some (AV.str l6))) (some (AV.str l0))
theorem g95_eq (x0 x1 : AV) : bareS vE 95 [x0, x1] = g95 x0 x1 := by kernel_rfl
noncomputable def g96 : AV → AV → Option AV := fun x0 x1 => asS x0 fun l0 => asI .u8 x1 fun n1 => planS (orc vE) (primP Prim.indexByte [AV.str l0, AV.int .u8 n1]) (St.mk 0 0 Tr.leaf) fun v2 _x _x_1 => asI .i64 v2 fun n5 => some (AV.int .i64 n5)
theorem g96_eq (x0 x1 : AV) : bareS vE 96 [x0, x1] = g96 x0 x1 := by kernel_rfl
noncomputable def g98_L1 (l0 : List UInt8) : Car → Option (Car ⊕ Nat × Car) := fun c11 => unc (Prod.fst c11) fun v12 l13 => asI .i64 v12 fun n14 => unc l13 fun v15 l16 => asI .i64 v15 fun n17 => un0 l16 (ifB (decide (n17 < (↑(List.length l0) : Int))) (letV (IntKind.wrap .i64 (n14 * 64)) fun n18 => idxStr l0 n17 fun c19 => letV (IntKind.wrap .i64 (↑(UInt8.toNat c19) : Int)) fun n20 => letV (IntKind.wrap .i64 (n18 + n20)) fun n21 => letV (IntKind.wrap .i64 (n21 - 128)) fun n22 => letV (IntKind.wrap .i64 (n17 + 1)) fun n23 => some (Sum.inl ([AV.int .i64 n22, AV.int .i64 n23], Prod.snd c11))) (some (Sum.inr (0, [AV.int .i64 n14], Prod.snd c11))))
noncomputable def g98 : AV → Option AV := fun x0 => asS x0 fun l0 => ifB ((↑(List.length l0) : Int) == 1) (idxStr l0 0 fun c1 => letV (IntKind.wrap .i64 (↑(UInt8.toNat c1) : Int)) fun n2 => some (AV.int .i64 n2)) (idxStr l0 0 fun c3 => letV (IntKind.wrap .i64 (↑(UInt8.toNat c3) : Int)) fun n4 => idxA 1 (AV.sl 1 [AV.int .i64 0, AV.int .i64 0, AV.int .i64 192, AV.int .i64 224, AV.int .i64 240] Perm.shut) (↑(List.length l0) : Int) (St.mk 0 0 Tr.leaf) fun v5 _x => loadS 1 false v5 (St.mk 0 0 Tr.leaf) fun v7 _x => asI .i64 v7 fun n9 => letV (IntKind.wrap .i64 (n4 - n9)) fun n10 => bindO (loopO (g98_L1 l0) ([AV.int .i64 n10, AV.int .i64 1], St.mk 0 0 Tr.leaf)) fun c24 => unc (Prod.fst (Prod.snd c24)) fun v25 l26 => asI .i64 v25 fun n27 => un0 l26 (some (AV.int .i64 n27)))
theorem g98_eq (x0 : AV) : bareS vE 98 [x0] = g98 x0 := by kernel_rfl
noncomputable def g99 : AV → Option AV := fun x0 => asI .i64 x0 fun n0 => bindO (ifB (decide (n0 < 0)) (some ([AV.bool true], St.mk 0 0 Tr.leaf)) (ifB (decide (n0 > 1114111)) (some ([AV.bool true], St.mk 0 0 Tr.leaf)) (ifB (decide (n0 ≥ 55296)) (some ([AV.bool (decide (n0 ≤ 57343))], St.mk 0 0 Tr.leaf)) (some ([AV.bool false], St.mk 0 0 Tr.leaf))))) fun c1 => unc (Prod.fst c1) fun v2 l3 => asB v2 fun b4 => un0 l3 (ifB b4 (some (AV.str [])) (ifB (decide (n0 < 128)) (letV (IntKind.wrap .u8 n0) fun n5 => letV [UInt8.ofNat (Int.toNat n5)] fun l6 => some (AV.str l6)) (ifB (decide (n0 < 2048)) (letV (IntKind.wrap .i64 (Int.tdiv n0 64)) fun n7 => letV (IntKind.wrap .i64 (192 + n7)) fun n8 => letV (IntKind.wrap .u8 n8) fun n9 => letV (Int.tmod n0 64) fun n10 => letV (IntKind.wrap .i64 (128 + n10)) fun n11 => letV (IntKind.wrap .u8 n11) fun n12 => letV [UInt8.ofNat (Int.toNat n9), UInt8.ofNat (Int.toNat n12)] fun l13 => some (AV.str l13)) (ifB (decide (n0 < 65536)) (letV (IntKind.wrap .i64 (Int.tdiv n0 4096)) fun n14 => letV (IntKind.wrap .i64 (224 + n14)) fun n15 => letV (IntKind.wrap .u8 n15) fun n16 => letV (IntKind.wrap .i64 (Int.tdiv n0 64)) fun n17 => letV (Int.tmod n17 64) fun n18 => letV (IntKind.wrap .i64 (128 + n18)) fun n19 => letV (IntKind.wrap .u8 n19) fun n20 => letV (Int.tmod n0 64) fun n21 => letV (IntKind.wrap .i64 (128 + n21)) fun n22 => letV (IntKind.wrap .u8 n22) fun n23 => letV [UInt8.ofNat (Int.toNat n16), UInt8.ofNat (Int.toNat n20), UInt8.ofNat (Int.toNat n23)] fun l24 => some (AV.str l24)) (letV (IntKind.wrap .i64 (Int.tdiv n0 262144)) fun n25 => letV (IntKind.wrap .i64 (240 + n25)) fun n26 => letV (IntKind.wrap .u8 n26) fun n27 => letV (IntKind.wrap .i64 (Int.tdiv n0 4096)) fun n28 => letV (Int.tmod n28 64) fun n29 => letV (IntKind.wrap .i64 (128 + n29)) fun n30 => letV (IntKind.wrap .u8 n30) fun n31 => letV (IntKind.wrap .i64 (Int.tdiv n0 64)) fun n32 => letV (Int.tmod n32 64) fun n33 => letV (IntKind.wrap .i64 (128 + n33)) fun n34 => letV (IntKind.wrap .u8 n34) fun n35 => letV (Int.tmod n0 64) fun n36 => letV (IntKind.wrap .i64 (128 + n36)) fun n37 => letV (IntKind.wrap .u8 n37) fun n38 => letV [UInt8.ofNat (Int.toNat n27), UInt8.ofNat (Int.toNat n31), UInt8.ofNat (Int.toNat n35), UInt8.ofNat (Int.toNat n38)] fun l39 => some (AV.str l39))))))
theorem g99_eq (x0 : AV) : bareS vE 99 [x0] = g99 x0 := by kernel_rfl
noncomputable def w32_L1 (v13 : AV) (k14 : Nat) : Car → Option (Car ⊕ Nat × Car) := fun c15 => unc (Prod.fst c15) fun v16 l17 => unc l17 fun v18 l19 => asI .i64 v18 fun n20 => un0 l19 (ifB (decide (n20 < (↑k14 : Int))) (idxA 4 v13 n20 (Prod.snd c15) fun v21 _x => loadS 4 true v21 (Prod.snd c15) fun v23 _x => unF v23 fun n29 n32 l35 v36 => (letSt (St.add (Prod.snd c15) (VM.Obj.cells 26 [AV.int .u8 0, AV.int .u8 0, AV.str [], AV.nils])) fun st38 => asOne v36 (storeS (orc vE) 4 (AV.mp (St.h (Prod.snd c15)) 0) (AV.agg [AV.int .u8 n29, AV.int .u8 n32, AV.str l35, v36]) [AV.int .u8 n29, AV.int .u8 n32, AV.str l35, v36] st38 fun _x st40 _x_1 => loadS 4 true (AV.mp (St.h (Prod.snd c15)) 0) st40 fun v42 _x => unF v42 fun n48 n51 l54 v55 => (callS (orc vE) 13 [AV.agg [AV.int .u8 n48, AV.int .u8 n51, AV.str l54, v55]] st40 fun v57 st58 _x => elemsS v57 fun l60 => fitTs true l60 fun l61 => chk (sizesOk 2 l61) (appS 2 24 23 v16 l61 st58 fun v62 st63 _x => letV (IntKind.wrap .i64 (n20 + 1)) fun n65 => some (Sum.inl ([v62, AV.int .i64 n65], st63))))))) (some (Sum.inr (0, [v16], Prod.snd c15))))
noncomputable def w32 : AV → AV → St → Option (AV × St) := fun x0 x1 st => unF x1 fun _x _x _x v11 => (asOne v11 (fit1 v11 fun v13 => lenS v13 fun k14 => bindO (loopO (w32_L1 v13 k14) ([x0, AV.int .i64 0], st)) fun c66 => unc (Prod.fst (Prod.snd c66)) fun v67 l68 => un0 l68 (some (oneOf [v67], Prod.snd (Prod.snd c66)))))
theorem w32_eq (x0 x1 : AV) (st : St) : wideS vE 32 [x0, x1] st = w32 x0 x1 st := by kernel_rfl
noncomputable def w42 : AV → St → Option (AV × St) := fun x0 st => nilS (U.slice 3) x0 AV.nils fun b0 => ifB b0 (some (AV.nils, st)) (elemsS x0 fun l1 => planS (orc vE) (msAppendP (TI.mk (U.int IntKind.i64) 1 8 [AV.int .i64 0] false false) 3 (AV.sl 1 [] Perm.shut) l1) st fun v2 st3 _x => some (oneOf [v2], st3))
theorem w42_eq (x0 : AV) (st : St) : wideS vE 42 [x0] st = w42 x0 st := by kernel_rfl
noncomputable def w44 : AV → AV → St → Option (AV × St) := fun x0 x1 st => asS x1 fun l0 => planS (orc vE) (primP (Prim.copyCheck [(73, 2, 0), (74, 2, 0)]) [x0]) st fun _x st2 _x_1 => chk (notNil x0) (fldA 1 x0 fun v4 => loadS 1 false v4 st2 fun v5 _x => fitTs false (ofBytes l0) fun l7 => chk (sizesOk 1 l7) (appS 1 1 5 v5 l7 st2 fun v8 st9 _x => chk (notNil x0) (fldA 1 x0 fun v11 => asOne v8 (asOne v8 (storeS (orc vE) 1 v11 v8 [v8] st9 fun _x st13 _x_2 => some (AV.tup [AV.int .i64 (↑(List.length l0) : Int), AV.nili], st13))))))
theorem w44_eq (x0 x1 : AV) (st : St) : wideS vE 44 [x0, x1] st = w44 x0 x1 st := by kernel_rfl
noncomputable def w46 : AV → AV → St → Option (AV × St) := fun x0 x1 st => loadS 4 true x1 st fun v0 _x => unF v0 fun n6 n9 l12 v13 => (callS (orc vE) 47 [AV.agg [AV.int .u8 n6, AV.int .u8 n9, AV.str l12, v13], AV.nils, x0] st fun v15 st16 _x => asB v15 fun _x => some (AV.tup [], st16))
theorem w46_eq (x0 x1 : AV) (st : St) : wideS vE 46 [x0, x1] st = w46 x0 x1 st := by kernel_rfl
noncomputable def w47_L1 (x1 : AV) (x2 : AV) (v13 : AV) (k19 : Nat) : Car → Option (Car ⊕ Nat × Car) := fun c20 => unc (Prod.fst c20) fun v21 l22 => asB v21 fun b23 => unc l22 fun v24 l25 => asI .i64 v24 fun n26 => un0 l25 (ifB (decide (n26 < (↑k19 : Int))) (idxA 4 v13 n26 (Prod.snd c20) fun v27 _x => loadS 4 true v27 (Prod.snd c20) fun v29 _x => unF v29 fun n35 n38 l41 v42 => (letSt (St.add (Prod.snd c20) (VM.Obj.cells 26 [AV.int .u8 0, AV.int .u8 0, AV.str [], AV.nils])) fun st44 => asOne v42 (storeS (orc vE) 4 (AV.mp (St.h (Prod.snd c20)) 0) (AV.agg [AV.int .u8 n35, AV.int .u8 n38, AV.str l41, v42]) [AV.int .u8 n35, AV.int .u8 n38, AV.str l41, v42] st44 fun _x st46 _x_1 => loadS 4 true (AV.mp (St.h (Prod.snd c20)) 0) st46 fun v48 l49 => unF v48 fun n54 n57 l60 v61 => (lenS x1 fun k63 => lenS x1 fun k64 => sliceS 1 x1 none (some (↑k63 : Int)) (some (↑k64 : Int)) fun v65 => appS 1 8 3 v65 [AV.int .i64 n26] st46 fun v66 st67 x68 => chk (apart (Fx.mk l49 Did.kept) x68 && true) (chk (apart x68 (Fx.mk [] Did.kept) && true) (callS (orc vE) 47 [AV.agg [AV.int .u8 n54, AV.int .u8 n57, AV.str l60, v61], v66, x2] st67 fun v69 st70 _x => asB v69 fun b72 => ifB (!b72) (some (Sum.inr (1, [AV.bool false], st70))) (letV (IntKind.wrap .i64 (n26 + 1)) fun n73 => some (Sum.inl ([AV.bool b23, AV.int .i64 n73], st70))))))))) (some (Sum.inr (0, [AV.bool b23], Prod.snd c20))))
noncomputable def w47 : AV → AV → AV → St → Option (AV × St) := fun x0 x1 x2 st => unF x0 fun n4 n7 l10 v11 => (asOne v11 (fit1 v11 fun v13 => ifB (n4 == 1) (callF (orc vE) (Sx.prim (sx vE 47)) x2 [x1, AV.agg [AV.int .u8 n4, AV.int .u8 n7, AV.str l10, v13]] st fun v15 st16 _x => asB v15 fun b18 => some (AV.bool b18, st16)) (ifB (n4 == 2) (some (AV.bool true, st)) (lenS v13 fun k19 => bindO (loopO (w47_L1 x1 x2 v13 k19) ([AV.bool false, AV.int .i64 0], st)) fun c74 => unc (Prod.fst (Prod.snd c74)) fun v75 l76 => asB v75 fun b77 => un0 l76 (sel2 (Prod.fst c74) (some (AV.bool true, Prod.snd (Prod.snd c74))) fun _x => some (AV.bool b77, Prod.snd (Prod.snd c74)))))))
theorem w47_eq (x0 x1 x2 : AV) (st : St) : wideS vE 47 [x0, x1, x2] st = w47 x0 x1 x2 st := by kernel_rfl
noncomputable def r13_0 : Nat → AV → AV → AV → St → Option (AV × St) := fun k y0 _x0 x1 st => unF x1 fun n4 n7 l10 v11 => (letSt (St.add st (VM.Obj.cells 26 [AV.int .u8 0, AV.int .u8 0, AV.str [], AV.nils])) fun st13 => asOne v11 (storeS (orc vE) 4 (AV.mp (St.h st) 0) (AV.agg [AV.int .u8 n4, AV.int .u8 n7, AV.str l10, v11]) [AV.int .u8 n4, AV.int .u8 n7, AV.str l10, v11] st13 fun _x st15 _x_1 => setLoopS k 0 1 Ex.normal st15 fun st17 => loadS 1 false y0 st17 fun v18 _x => loadS 4 true (AV.mp (St.h st) 0) st17 fun v20 _x => unF v20 fun n26 n29 l32 v33 => (callS (orc vE) 32 [v18, AV.agg [AV.int .u8 n26, AV.int .u8 n29, AV.str l32, v33]] st17 fun v35 st36 _x => asOne v35 (asOne v35 (storeS (orc vE) 1 y0 v35 [v35] st36 fun _x st39 _x_2 => loadS 2 true (AV.mp (St.h st) 1) st39 fun v41 _x => unK v41 fun n47 l50 => (bindO (toO (VM.binOp (Env.T vE) BinOp.neq 23 (AV.agg [AV.int .u8 n47, AV.str l50]) (AV.agg [AV.int .u8 0, AV.str []]))) fun v52 => asB v52 fun b53 => bindO (ifB b53 (loadS 1 false y0 st39 fun v54 _x => loadS 2 true (AV.mp (St.h st) 1) st39 fun v56 _x => unK v56 fun n62 l65 => (appS 2 24 23 v54 [AV.agg [AV.int .u8 n62, AV.str l65]] st39 fun v66 st67 _x => asOne v66 (asOne v66 (storeS (orc vE) 1 y0 v66 [v66] st67 fun _x st70 _x_3 => some ([], st70))))) (some ([], st39))) fun c72 => un0 (Prod.fst c72) (setLoopS k 1 0 Ex.normal (Prod.snd c72) fun st73 => some (AV.bool true, st73))))))))
theorem r13_0_eq (k : Nat) (y0 x0 x1 : AV) (st : St) : roundS vE 13 0 k [y0] [x0, x1] st = r13_0 k y0 x0 x1 st := by kernel_rfl
noncomputable def r23_0 : Nat → AV → AV → AV → AV → AV → AV → St → Option (AV × St) := fun k y0 y1 y2 y3 x0 x1 st => unF x1 fun n4 n7 l10 v11 => (letSt (St.add st (VM.Obj.cells 26 [AV.int .u8 0, AV.int .u8 0, AV.str [], AV.nils])) fun st13 => asOne v11 (storeS (orc vE) 4 (AV.mp (St.h st) 0) (AV.agg [AV.int .u8 n4, AV.int .u8 n7, AV.str l10, v11]) [AV.int .u8 n4, AV.int .u8 n7, AV.str l10, v11] st13 fun _x st15 _x_1 => setLoopS k 0 1 Ex.normal st15 fun st17 => loadS 1 false y1 st17 fun v18 l19 => asI .i64 v18 fun n20 => loadS 4 true (AV.mp (St.h st) 0) st17 fun v21 _x => unF v21 fun n27 n30 l33 v34 => (callS (orc vE) 10 [AV.agg [AV.int .u8 n27, AV.int .u8 n30, AV.str l33, v34]] st17 fun v36 st37 x38 => asS v36 fun l39 => chk (apart (Fx.mk l19 Did.kept) x38 && true) (letV (IntKind.wrap .i64 (n20 + (↑(List.length l39) : Int))) fun n40 => storeS (orc vE) 1 y1 (AV.int .i64 n40) [AV.int .i64 n40] st37 fun _x st42 _x_2 => loadS 1 false y0 st42 fun v44 _x => asI .i64 v44 fun n46 => loadS 1 false y1 st42 fun v47 _x => asI .i64 v47 fun n49 => ifB (decide (n46 < n49)) (callS (orc vE) 42 [x0] st42 fun v50 st51 _x => asOne v50 (asOne v50 (storeS (orc vE) 1 y2 v50 [v50] st51 fun _x st54 _x_3 => storeS (orc vE) 1 y3 (AV.int .i64 0) [AV.int .i64 0] st54 fun _x st57 _x_4 => setLoopS k 1 2 Ex.ret st57 fun st59 => some (AV.bool false, st59)))) (setLoopS k 1 0 Ex.normal st42 fun st60 => some (AV.bool true, st60))))))
theorem r23_0_eq (k : Nat) (y0 y1 y2 y3 x0 x1 : AV) (st : St) : roundS vE 23 0 k [y0, y1, y2, y3] [x0, x1] st = r23_0 k y0 y1 y2 y3 x0 x1 st := by kernel_rfl
end Go.Proofs.YtflnfagdpoddiaaGreatDoor.Vm
set_option maxRecDepth 100000
set_option linter.unusedSimpArgs false
namespace Go.Proofs.YtflnfagdpoddiaaGreatDoor.Vm
open Go Go.VM Go.Proofs Go.Lex

theorem all_bytes {p : UInt8 → Bool} (h : ((List.range 256).all fun n => p (UInt8.ofNat n)) = true) (b : UInt8) : p b = true := by
  have := List.all_eq_true.1 h b.toNat (List.mem_range.2 (UInt8.toNat_lt b))
  simpa using this
theorem same_byte {p q : UInt8 → Bool} (h : ((List.range 256).all fun n => p (UInt8.ofNat n) == q (UInt8.ofNat n)) = true) : p = q := by
  funext b
  exact eq_of_beq (all_bytes (p := fun b => p b == q b) h b)
theorem run_ok {s c : List UInt8} {p : UInt8 → Bool} (hc : (c.length.blt 4294967281 && c.all (fun b => b.toNat.blt 128)) = true) (hp : (fun b => c.contains b) = p) (hs : s.length ≤ 1000000) :
    (orc vE).bare 69 [.str s, .str c] = some (.int .i64 (wh p s : Int)) := by
  refine bare_of rfl ((g69_eq _ _).trans ?_)
  have h1 : libTrimLeft [.str s, .str c] = .ok (.str (s.dropWhile p)) := by
    simp only [libTrimLeft, hc, Lib.trimLeftS]
    rw [← hp]
  have h2 := wh_len p s
  have h3 : IntKind.wrap .i64 ((s.length : Int) - ((s.dropWhile p).length : Int)) = (wh p s : Int) := by
    rw [wrapS (by omega) (by omega)]; congr 1; omega
  simp only [g69, asS_str, planS_lib h1, letV_eq, h3]
theorem call_run {β : Type} {s c : List UInt8} {p : UInt8 → Bool} (hc : (c.length.blt 4294967281 && c.all (fun b => b.toNat.blt 128)) = true) (hp : (fun b => c.contains b) = p) (hs : s.length ≤ 1000000) (st : St) (K : Kv β) :
    callS (orc vE) 69 [.str s, .str c] st K = K (.int .i64 (wh p s : Int)) st q0 := callS_bare st K rfl rfl rfl (run_ok hc hp hs)
theorem run_blank {β : Type} {s : List UInt8} (hs : s.length ≤ 1000000) (st : St) (K : Kv β) : callS (orc vE) 69 [.str s, .str [32, 9, 10, 13]] st K = K (.int .i64 (wh isBlank s : Int)) st q0 :=
  call_run rfl (same_byte (by decide +kernel)) hs st K
theorem run_low {β : Type} {s : List UInt8} (hs : s.length ≤ 1000000) (st : St) (K : Kv β) : callS (orc vE) 69 [.str s, .str [97, 98, 99, 100, 101, 102, 103, 104, 105, 106, 107, 108, 109, 110, 111, 112, 113, 114, 115, 116, 117, 118, 119, 120, 121, 122, 95]] st K = K (.int .i64 (wh isLow s : Int)) st q0 :=
  call_run (by decide +kernel) (same_byte (by decide +kernel)) hs st K
theorem run_dig {β : Type} {s : List UInt8} (hs : s.length ≤ 1000000) (st : St) (K : Kv β) : callS (orc vE) 69 [.str s, .str [48, 49, 50, 51, 52, 53, 54, 55, 56, 57]] st K = K (.int .i64 (wh isDig s : Int)) st q0 :=
  call_run rfl (same_byte (by decide +kernel)) hs st K
theorem run_beh {β : Type} {s : List UInt8} (hs : s.length ≤ 1000000) (st : St) (K : Kv β) : callS (orc vE) 69 [.str s, .str [97, 98, 99, 100, 101, 102, 103, 104, 105, 106, 107, 108, 109, 110, 111, 112, 113, 114, 115, 116, 117, 118, 119, 120, 121, 122, 95, 65, 66, 67, 68, 69, 70, 71, 72, 73, 74, 75, 76, 77, 78, 79, 80, 81, 82, 83, 84, 85, 86, 87, 88, 89, 90, 39, 48, 49, 50, 51, 52, 53, 54, 55, 56, 57]] st K = K (.int .i64 (wh isBeh s : Int)) st q0 :=
  call_run (by decide +kernel) (same_byte (by decide +kernel)) hs st K
def isE (c : UInt8) : Bool := c == 101 || c == 69
theorem run_e {β : Type} {s : List UInt8} (hs : s.length ≤ 1000000) (st : St) (K : Kv β) : callS (orc vE) 69 [.str s, .str [101, 69]] st K = K (.int .i64 (wh isE s : Int)) st q0 :=
  call_run rfl (same_byte (by decide +kernel)) hs st K
theorem run_sgn {β : Type} {s : List UInt8} (hs : s.length ≤ 1000000) (st : St) (K : Kv β) : callS (orc vE) 69 [.str s, .str [43, 45]] st K = K (.int .i64 (wh isSgn s : Int)) st q0 :=
  call_run rfl (same_byte (by decide +kernel)) hs st K
theorem run_one {β : Type} {s : List UInt8} (hs : s.length ≤ 1000000) (st : St) (K : Kv β) : callS (orc vE) 69 [.str s, .str [40, 41, 91, 93, 44, 59, 124, 61, 60, 62, 43, 45, 42, 47, 94, 64]] st K = K (.int .i64 (wh isOne s : Int)) st q0 :=
  call_run rfl (same_byte (by decide +kernel)) hs st K
theorem has_ok (s p : List UInt8) : (orc vE).bare 91 [.str s, .str p] = some (.bool (s.take p.length == p)) := by
  refine bare_of rfl ((g91_eq _ _).trans ?_)
  by_cases h : (s.length : Int) ≥ (p.length : Int)
  · simp only [g91, asS_str, ifB_decide, if_pos h, ble_of (show p.length ≤ s.length by omega), chk_true, List.drop_zero, letV_eq, bindO_ok, unc_cons, asB_bool, un0_nil]
  · have e : (s.take p.length == p) = false := by
      rw [beq_eq_false_iff_ne]
      intro e
      have := congrArg List.length e
      rw [List.length_take] at this
      omega
    simp only [g91, asS_str, ifB_decide, if_neg h, bindO_ok, unc_cons, asB_bool, un0_nil, e]
theorem prefix_ok (s p : List UInt8) : (orc vE).bare 70 [.str s, .str p] = some (.bool (s.take p.length == p)) := by
  refine bare_of rfl ((g70_eq _ _).trans ?_)
  have h : ∀ {β : Type} (st : St) (K : Kv β), callS (orc vE) 91 [.str s, .str p] st K = K (.bool (s.take p.length == p)) st q0 := fun st K => callS_bare st K rfl rfl rfl (has_ok s p)
  simp only [g70, asS_str, h, asB_bool]
theorem call_prefix {β : Type} (s p : List UInt8) (st : St) (K : Kv β) : callS (orc vE) 70 [.str s, .str p] st K = K (.bool (s.take p.length == p)) st q0 := callS_bare st K rfl rfl rfl (prefix_ok s p)
theorem trim_ok (s p : List UInt8) : (orc vE).bare 73 [.str s, .str p] = some (.str (if (s.take p.length == p) = true then s.drop p.length else s)) := by
  have h : ∀ {β : Type} (st : St) (K : Kv β), callS (orc vE) 91 [.str s, .str p] st K = K (.bool (s.take p.length == p)) st q0 := fun st K => callS_bare st K rfl rfl rfl (has_ok s p)
  have h2 : (orc vE).bare 95 [.str s, .str p] = some (.str (if (s.take p.length == p) = true then s.drop p.length else s)) := by
    refine bare_of rfl ((g95_eq _ _).trans ?_)
    simp only [g95, asS_str, h, asB_bool]
    cases e : s.take p.length == p with
    | true =>
      have hl : p.length ≤ s.length := by
        have := congrArg List.length (eq_of_beq e)
        rw [List.length_take] at this
        omega
      simp only [ifB_true, ble_of hl, chk_true, List.take_length, letV_eq, if_true]
    | false => rfl
  have h3 : ∀ {β : Type} (st : St) (K : Kv β), callS (orc vE) 95 [.str s, .str p] st K = K (.str (if (s.take p.length == p) = true then s.drop p.length else s)) st q0 := fun st K => callS_bare st K rfl rfl rfl h2
  refine bare_of rfl ((g73_eq _ _).trans ?_)
  simp only [g73, asS_str, h3]
theorem call_trim {β : Type} (s p : List UInt8) (st : St) (K : Kv β) : callS (orc vE) 73 [.str s, .str p] st K = K (.str (if (s.take p.length == p) = true then s.drop p.length else s)) st q0 := callS_bare st K rfl rfl rfl (trim_ok s p)
def idxB (s : List UInt8) (c : UInt8) : Int := match findByte c.toNat s with | some i => (i : Int) | none => -1
theorem index_ok (s : List UInt8) (c : UInt8) : (orc vE).bare 74 [.str s, .int .u8 (c.toNat : Int)] = some (.int .i64 (idxB s c)) := by
  have h : (orc vE).bare 96 [.str s, .int .u8 (c.toNat : Int)] = some (.int .i64 (idxB s c)) := by
    refine bare_of rfl ((g96_eq _ _).trans ?_)
    have e : ((c.toNat : Int).toNat % 256) = c.toNat := by
      have := UInt8.toNat_lt c
      omega
    simp only [g96, asS_str, asI_int, planS, outS, primP, planO, bindO_ok, e, idxB]
    rfl
  have h3 : ∀ {β : Type} (st : St) (K : Kv β), callS (orc vE) 96 [.str s, .int .u8 (c.toNat : Int)] st K = K (.int .i64 (idxB s c)) st q0 := fun st K => callS_bare st K rfl rfl rfl h
  refine bare_of rfl ((g74_eq _ _).trans ?_)
  simp only [g74, asS_str, asI_int, h3]
theorem call_index {β : Type} (s : List UInt8) (c : UInt8) (st : St) (K : Kv β) : callS (orc vE) 74 [.str s, .int .u8 (c.toNat : Int)] st K = K (.int .i64 (idxB s c)) st q0 := callS_bare st K rfl rfl rfl (index_ok s c)
def wordsV : AV := .im ((.str [95], .int .u8 8) :: words.map fun w => (.str w, .int .u8 3))
def isWordsV : Res AV → Bool
  | .ok (.im [(.str w0, .int .u8 n0), (.str w1, .int .u8 n1), (.str w2, .int .u8 n2), (.str w3, .int .u8 n3), (.str w4, .int .u8 n4), (.str w5, .int .u8 n5), (.str w6, .int .u8 n6), (.str w7, .int .u8 n7), (.str w8, .int .u8 n8), (.str w9, .int .u8 n9), (.str w10, .int .u8 n10), (.str w11, .int .u8 n11), (.str w12, .int .u8 n12)]) =>
    ([w0, w1, w2, w3, w4, w5, w6, w7, w8, w9, w10, w11, w12] == [95] :: words) && ([n0, n1, n2, n3, n4, n5, n6, n7, n8, n9, n10, n11, n12] == 8 :: words.map fun _ => 3)
  | _ => false
theorem isWordsV_ok {r : Res AV} (h : isWordsV r = true) : r = .ok wordsV := by
  unfold isWordsV at h
  split at h
  · simp only [Bool.and_eq_true] at h
    have h1 := eq_of_beq h.1
    have h2 := eq_of_beq h.2
    simp only [words, List.map_cons, List.map_nil, List.cons.injEq, and_true] at h1 h2
    obtain ⟨rfl, rfl, rfl, rfl, rfl, rfl, rfl, rfl, rfl, rfl, rfl, rfl, rfl⟩ := h1
    obtain ⟨rfl, rfl, rfl, rfl, rfl, rfl, rfl, rfl, rfl, rfl, rfl, rfl, rfl⟩ := h2
    rfl
  · cases h
theorem words_ok : (orc vE).bare 71 [] = some wordsV := by
  have h : isWordsV ((caller vE 300).bare 71 []) = true := by kernel_rfl
  exact orc_bare (isWordsV_ok h)
theorem call_words {β : Type} (st : St) (K : Kv β) : callS (orc vE) 71 [] st K = K wordsV st q0 := callS_bare st K rfl rfl rfl words_ok
theorem find_words (w : List UInt8) : ∀ (l : List (List UInt8)), findEntry (.str w) (l.map fun w => (AV.str w, AV.int .u8 3)) = .ok (if l.contains w then some (.int .u8 3) else none)
  | [] => rfl
  | x :: l => by
    have ih := find_words w l
    simp only [List.map_cons, findEntry, keyEq, ok_bind, List.contains_cons]
    cases e : w == x with
    | true => rfl
    | false =>
      simp only [Bool.false_or]
      exact ih
theorem look_words {β : Type} (w : List UInt8) (st : St) (K : Kv β) : planS (orc vE) (lookupP (Env.T vE) 96 wordsV (.str w) true) st K =
    K (.tup [.int .u8 (if w = [95] then 8 else if words.contains w then 3 else 0 : Int), .bool (decide (w = [95]) || words.contains w)]) st q0 := by
  have e1 : ti (Env.T vE) 96 = .ok ⟨.map 9 5, 1, 8, [.nilm], false, false⟩ := rfl
  have e2 : ti (Env.T vE) 5 = .ok ⟨.int .u8, 1, 1, [.int .u8 0], false, false⟩ := rfl
  have e3 : ti (Env.T vE) 9 = .ok ⟨.str, 1, 16, [.str []], false, false⟩ := rfl
  have e4 : findEntry (.str w) ((.str [95], .int .u8 8) :: words.map fun w => (.str w, .int .u8 3)) = .ok (if w = [95] then some (.int .u8 8) else if words.contains w then some (.int .u8 3) else none) := by
    simp only [findEntry, keyEq, ok_bind]
    cases e : w == [95] with
    | true => rw [if_pos (eq_of_beq e)]; rfl
    | false => rw [if_neg (by simpa using e)]; exact find_words w words
  have e5 : lookupP (Env.T vE) 96 wordsV (.str w) true = .ok (.val (.tup [.int .u8 (if w = [95] then 8 else if words.contains w then 3 else 0 : Int), .bool (decide (w = [95]) || words.contains w)])) := by
    simp only [lookupP, e1, e2, e3, ok_bind, keyOk, wordsV, found, e4]
    by_cases h : w = [95]
    · simp [h]; rfl
    · cases h2 : words.contains w <;> simp [h] <;> rfl
  rw [e5]; rfl

theorem blank_ok {s : List UInt8} (hs : s.length ≤ 1000000) : (orc vE).bare 53 [.str s] = some (.tup [.int .u8 1, .int .i64 (wh isBlank s : Int)]) := by
  refine bare_of rfl ((g53_eq _).trans ?_)
  simp only [g53, asS_str, run_blank hs, asI_int]
theorem remark_loop (s : List UInt8) (hs : s.length ≤ 1000000) (st : St) : ∀ (l : List UInt8) (i d : Nat), s.drop i = l → i ≤ s.length → 1 ≤ d → d ≤ i →
    loopO (g54_L1 s) ([.int .i64 (d : Int), .int .u8 0, .int .i64 0, .int .i64 (i : Int)], st) = some (match rem l d with | some n => (1, [.int .u8 2, .int .i64 ((i + n : Nat) : Int)], st) | none => (0, [.int .u8 0, .int .i64 0], st))
  | [], i, d, hd, hi, h1, h2 => by
    have := List.drop_eq_nil_iff.1 hd
    have q : ¬ (i : Int) < (s.length : Int) := by omega
    refine loopO_inr ?_
    simp only [g54_L1, unc_cons, asI_int, un0_nil, ifB_decide, if_neg q]
    rfl
  | [a], i, d, hd, hi, h1, h2 => by
    obtain ⟨hg, hr, hlt⟩ := drop_cons hd
    have q : (i : Int) < (s.length : Int) := by omega
    have ih := remark_loop s hs st [] (i + 1) d hr (by omega) h1 (by omega)
    rw [loopO_inl (s' := ([.int .i64 (d : Int), .int .u8 0, .int .i64 0, .int .i64 ((i + 1 : Nat) : Int)], st)), ih]
    · rfl
    · simp only [g54_L1, unc_cons, asI_int, un0_nil, ifB_decide, if_pos q, uptoS_nat (show i ≤ s.length by omega), List.take_length, letV_eq, hd, call_prefix, asB_bool]
      simp only [show ([a].take [(40 : UInt8), 42].length == [40, 42]) = false by simp, show ([a].take [(42 : UInt8), 41].length == [42, 41]) = false by simp, ifB_false, bindO_ok, onSum_inl, unc_cons, asI_int, un0_nil, wrapA1 (show i + 1 ≤ 9223372036854775807 by omega)]
  | a :: b :: l, i, d, hd, hi, h1, h2 => by
    obtain ⟨hg, hr, hlt⟩ := drop_cons hd
    obtain ⟨hg2, hr2, hlt2⟩ := drop_cons hr
    have q : (i : Int) < (s.length : Int) := by omega
    have t1 : ((a :: b :: l).take [(40 : UInt8), 42].length == [40, 42]) = (decide (a = 40 ∧ b = 42)) := by
      show ([a, b] == [40, 42]) = _
      by_cases h : a = 40 ∧ b = 42
      · rw [h.1, h.2]; rfl
      · rw [decide_eq_false h, beq_eq_false_iff_ne]
        intro e
        simp only [List.cons.injEq, and_true] at e
        exact h e
    have t2 : ((a :: b :: l).take [(42 : UInt8), 41].length == [42, 41]) = (decide (a = 42 ∧ b = 41)) := by
      show ([a, b] == [42, 41]) = _
      by_cases h : a = 42 ∧ b = 41
      · rw [h.1, h.2]; rfl
      · rw [decide_eq_false h, beq_eq_false_iff_ne]
        intro e
        simp only [List.cons.injEq, and_true] at e
        exact h e
    by_cases c1 : a = 40 ∧ b = 42
    · have ih := remark_loop s hs st l (i + 2) (d + 1) hr2 (by omega) (by omega) (by omega)
      rw [loopO_inl (s' := ([.int .i64 ((d + 1 : Nat) : Int), .int .u8 0, .int .i64 0, .int .i64 ((i + 2 : Nat) : Int)], st)), ih]
      · simp only [rem, if_pos c1]
        cases rem l (d + 1) with
        | none => rfl
        | some n => simp only [Option.map_some]; rw [show i + 2 + n = i + (n + 2) by omega]
      · simp only [g54_L1, unc_cons, asI_int, un0_nil, ifB_decide, if_pos q, uptoS_nat (show i ≤ s.length by omega), List.take_length, letV_eq, hd, call_prefix, asB_bool, t1, if_pos c1, bindO_ok, onSum_inl, wrapA1 (show d + 1 ≤ 9223372036854775807 by omega), wrapA2 (show i + 2 ≤ 9223372036854775807 by omega)]
    · by_cases c2 : a = 42 ∧ b = 41
      · have w := wrapS (n := d) (m := 1) h1 (by omega)
        have w : IntKind.wrap .i64 ((d : Int) - 1) = ((d - 1 : Nat) : Int) := w
        by_cases c3 : d = 1
        · subst c3
          simp only [rem, if_neg c1, if_pos c2, if_true]
          refine loopO_inr ?_
          simp only [g54_L1, unc_cons, asI_int, un0_nil, ifB_decide, if_pos q, uptoS_nat (show i ≤ s.length by omega), List.take_length, letV_eq, hd, call_prefix, asB_bool, t1, t2, if_neg c1, if_pos c2, bindO_ok, w, wrapA2 (show i + 2 ≤ 9223372036854775807 by omega), ifB_beq]
          rfl
        · have ih := remark_loop s hs st l (i + 2) (d - 1) hr2 (by omega) (by omega) (by omega)
          have z : ¬ ((d - 1 : Nat) : Int) = 0 := by omega
          rw [loopO_inl (s' := ([.int .i64 ((d - 1 : Nat) : Int), .int .u8 0, .int .i64 0, .int .i64 ((i + 2 : Nat) : Int)], st)), ih]
          · simp only [rem, if_neg c1, if_pos c2, if_neg c3]
            cases rem l (d - 1) with
            | none => rfl
            | some n => simp only [Option.map_some]; rw [show i + 2 + n = i + (n + 2) by omega]
          · simp only [g54_L1, unc_cons, asI_int, un0_nil, ifB_decide, if_pos q, uptoS_nat (show i ≤ s.length by omega), List.take_length, letV_eq, hd, call_prefix, asB_bool, t1, t2, if_neg c1, if_pos c2, bindO_ok, w, wrapA2 (show i + 2 ≤ 9223372036854775807 by omega), ifB_beq, if_neg z, onSum_inl]
      · have ih := remark_loop s hs st (b :: l) (i + 1) d hr (by omega) h1 (by omega)
        rw [loopO_inl (s' := ([.int .i64 (d : Int), .int .u8 0, .int .i64 0, .int .i64 ((i + 1 : Nat) : Int)], st)), ih]
        · simp only [rem, if_neg c1, if_neg c2]
          cases rem (b :: l) d with
          | none => rfl
          | some n => simp only [Option.map_some]; rw [show i + 1 + n = i + (n + 1) by omega]
        · simp only [g54_L1, unc_cons, asI_int, un0_nil, ifB_decide, if_pos q, uptoS_nat (show i ≤ s.length by omega), List.take_length, letV_eq, hd, call_prefix, asB_bool, t1, t2, if_neg c1, if_neg c2, bindO_ok, onSum_inl, wrapA1 (show i + 1 ≤ 9223372036854775807 by omega)]
theorem remark_ok {s : List UInt8} (hs : s.length ≤ 1000000) : (orc vE).bare 54 [.str s] = some (if s.take 2 = [40, 42] then (match rem (s.drop 2) 1 with | some n => .tup [.int .u8 2, .int .i64 ((n + 2 : Nat) : Int)] | none => .tup [.int .u8 9, .int .i64 (s.length : Int)]) else .tup [.int .u8 0, .int .i64 0]) := by
  refine bare_of rfl ((g54_eq _).trans ?_)
  by_cases h : s.take 2 = [40, 42]
  · have h' : (s.take [(40 : UInt8), 42].length == [40, 42]) = true := by simpa using h
    have hl : 2 ≤ s.length := by
      have := congrArg List.length h
      rw [List.length_take] at this
      simp at this; omega
    have q : (0 : Int) < (s.length : Int) := by omega
    have e : loopO (g54_L1 s) ([.int .i64 0, .int .u8 0, .int .i64 0, .int .i64 0], St.mk 0 0 Tr.leaf) = some (match rem (s.drop 2) 1 with | some n => (1, [.int .u8 2, .int .i64 ((2 + n : Nat) : Int)], St.mk 0 0 Tr.leaf) | none => (0, [.int .u8 0, .int .i64 0], St.mk 0 0 Tr.leaf)) := by
      rw [loopO_inl (s' := ([.int .i64 ((1 : Nat) : Int), .int .u8 0, .int .i64 0, .int .i64 ((2 : Nat) : Int)], St.mk 0 0 Tr.leaf)), remark_loop s hs (St.mk 0 0 Tr.leaf) (s.drop 2) 2 1 rfl hl (by omega) (by omega)]
      simp only [g54_L1, unc_cons, asI_int, un0_nil, ifB_decide, if_pos q, show uptoS (0 : Int) s.length = uptoS ((0 : Nat) : Int) s.length from rfl, uptoS_nat (show 0 ≤ s.length by omega), List.take_length, List.drop_zero, letV_eq, call_prefix, asB_bool, h', ifB_true, bindO_ok, onSum_inl]
      rfl
    simp only [g54, asS_str, call_prefix, asB_bool, h', Bool.not_true, ifB_false, if_pos h]
    rw [e]
    cases rem (s.drop 2) 1 with
    | none => simp only [bindO_ok, unc_cons, asI_int, un0_nil, sel2_zero]
    | some n => simp only [bindO_ok, unc_cons, asI_int, un0_nil, sel2_one]; rw [Nat.add_comm 2 n]
  · have h' : (s.take [(40 : UInt8), 42].length == [40, 42]) = false := by simpa using h
    simp only [g54, asS_str, call_prefix, asB_bool, h', Bool.not_false, ifB_true, if_neg h]
theorem name_ok {c : UInt8} {l : List UInt8} (hs : (c :: l).length ≤ 1000000) : (orc vE).bare 55 [.str (c :: l)] = some (if isLow c then .tup [.int .u8 (nameK ((c :: l).takeWhile isBeh) : Int), .int .i64 (wh isBeh (c :: l) : Int)] else .tup [.int .u8 0, .int .i64 0]) := by
  refine bare_of rfl ((g55_eq _).trans ?_)
  have h1 : (List.drop 0 (List.take 1 (c :: l))) = [c] := rfl
  have h2 : wh isLow [c] = if isLow c then 1 else 0 := by rw [wh_cons]; rfl
  simp only [g55, asS_str, ble_of (show 1 ≤ (c :: l).length by simp), chk_true, letV_eq, h1, run_low (show [c].length ≤ 1000000 by simp), asI_int, ifB_beq, h2]
  cases hc : isLow c with
  | false => rfl
  | true =>
    simp only [if_true, show ¬ (((1 : Nat) : Int) = 0) by omega, if_false, run_beh hs, asI_int, call_words, apart_kept, apart_kept2, Bool.and_self, chk_true, uptoS_nat (wh_le isBeh (c :: l)), List.drop_zero, letV_eq, wh_take, look_words, unT_tup, nthS_zero, nthS_one, asB_bool]
    generalize (c :: l).takeWhile isBeh = w
    unfold nameK
    by_cases e1 : w = [95]
    · simp [e1]
    · cases e2 : words.contains w <;> simp [e1] <;> rfl
end Go.Proofs.YtflnfagdpoddiaaGreatDoor.Vm
set_option maxRecDepth 100000
set_option linter.unusedSimpArgs false
namespace Go.Proofs.YtflnfagdpoddiaaGreatDoor.Vm
open Go Go.VM Go.Proofs Go.Lex

theorem numV_ge : ∀ (l : List UInt8) (a : Nat), a ≤ numV a l
  | [], a => by rw [numV_nil]; exact Nat.le_refl _
  | c :: l, a => by
    have := numV_ge l (stepV a c)
    rw [numV_cons]
    unfold stepV at this ⊢
    omega
theorem parse_digs : ∀ (l : List UInt8) (a : Nat), l.all isDig = true → a < 18446744073709551616 → Lib.parseUint10 a l = if numV a l < 18446744073709551616 then .ok (numV a l) else .range
  | [], a, _, ha => by rw [numV_nil, if_pos ha, Lib.parseUint10]
  | c :: l, a, h, ha => by
    simp only [List.all_cons, Bool.and_eq_true] at h
    have hc : 48 ≤ c.toNat ∧ c.toNat ≤ 57 := by
      have := h.1
      simp only [isDig, Bool.and_eq_true, decide_eq_true_eq] at this
      exact this
    have hg := numV_ge l (stepV a c)
    have hs : a * 10 + (c.toNat - 48) = stepV a c := id rfl
    have hs2 : a * 10 ≤ stepV a c := by rw [← hs]; omega
    rw [Lib.parseUint10, if_pos hc, numV_cons, hs]
    by_cases c1 : 1844674407370955162 ≤ a
    · rw [if_pos c1, if_neg (by omega)]
    · rw [if_neg c1]
      by_cases c2 : 18446744073709551616 ≤ stepV a c
      · rw [if_pos c2, if_neg (by omega)]
      · rw [if_neg c2]
        exact parse_digs l _ h.2 (by omega)
theorem atoi_plain {l : List UInt8} (hne : l ≠ []) (h : l.all isDig = true) : Lib.atoiAll l = if numV 0 l < 9223372036854775808 then .ok (numV 0 l : Int) else .range := by
  cases l with
  | nil => exact absurd rfl hne
  | cons c r =>
    have hc : 48 ≤ c.toNat ∧ c.toNat ≤ 57 := by
      simp only [List.all_cons, Bool.and_eq_true] at h
      have := h.1
      simp only [isDig, Bool.and_eq_true, decide_eq_true_eq] at this
      exact this
    have n1 : ¬ (c.toNat = 43 ∨ c.toNat = 45) := by omega
    have n2 : ¬ c.toNat = 45 := by omega
    have hp := parse_digs (c :: r) 0 h (by omega)
    simp only [Lib.atoiAll, if_neg n1, Lib.parseMag, if_neg hne, hp]
    by_cases c1 : numV 0 (c :: r) < 18446744073709551616
    · rw [if_pos c1]
      dsimp only
      by_cases c2 : numV 0 (c :: r) < 9223372036854775808
      · rw [if_pos c2, if_neg (by omega), if_neg (by omega), if_neg n2]
      · rw [if_neg c2, if_pos (by omega)]
    · rw [if_neg c1, if_neg (by omega)]
theorem atoi_minus {l : List UInt8} (hne : l ≠ []) (h : l.all isDig = true) : Lib.atoiAll (45 :: l) = if numV 0 l ≤ 9223372036854775808 then .ok (-(numV 0 l : Int)) else .range := by
  have e : (45 : UInt8).toNat = 45 := rfl
  have hp := parse_digs l 0 h (by omega)
  simp only [Lib.atoiAll, e, or_true, if_true, Lib.parseMag, if_neg hne, hp]
  by_cases c1 : numV 0 l < 18446744073709551616
  · rw [if_pos c1]
    dsimp only
    by_cases c2 : numV 0 l ≤ 9223372036854775808
    · rw [if_pos c2, if_neg (by simp), if_neg (by omega)]
    · rw [if_neg c2, if_neg (by simp), if_pos ⟨trivial, by omega⟩]
  · rw [if_neg c1, if_neg (by omega)]
theorem takeWhile_all (p : UInt8 → Bool) (l : List UInt8) : (l.takeWhile p).all p = true := by
  induction l with
  | nil => rfl
  | cons c l ih =>
    rw [List.takeWhile_cons]
    split
    · rename_i h; simp [h, ih]
    · rfl
def farP (k : Nat) (x : Int) : Bool := decide (x - k < -22) || decide (x - k > 22)
theorem wrap_low {n : Int} (h1 : n < -9223372036854775808) (h2 : -18446744073709551616 ≤ n) : IntKind.wrap .i64 n = n + 18446744073709551616 := by
  have e : IntKind.wrap .i64 n = if n % 18446744073709551616 ≥ 9223372036854775808 then n % 18446744073709551616 - 18446744073709551616 else n % 18446744073709551616 := by
    show (if (true && decide (n % (2 ^ 64 : Int) ≥ (2 ^ 63 : Int))) = true then n % (2 ^ 64 : Int) - (2 ^ 64 : Int) else n % (2 ^ 64 : Int)) = _
    simp
  rw [e]
  split <;> omega
structure Near (k v : Nat) (neg : Bool) (x : Int) : Prop where
  lo : -9223372036854775808 ≤ x
  hi : x ≤ 9223372036854775807
  eq : v ≤ 1000000 → x = if neg then -(v : Int) else v
  far : 1000000 < v → 1000000 < x ∨ x < -1000000
theorem near_far {k v : Nat} {neg : Bool} {x : Int} (h : Near k v neg x) (hk : k ≤ 500000) :
    (decide (IntKind.wrap .i64 (x - k) < -22) || decide (IntKind.wrap .i64 (x - k) > 22)) = farP k (if neg then -((min v 1000000 : Nat) : Int) else ((min v 1000000 : Nat) : Int)) := by
  obtain ⟨h1, h2, h3, h4⟩ := h
  have hw : (IntKind.wrap .i64 (x - k) = x - k) ∨ (x - k < -9223372036854775808 ∧ IntKind.wrap .i64 (x - k) = x - k + 18446744073709551616) := by
    by_cases c : -9223372036854775808 ≤ x - k
    · exact .inl (wrap_i64 c (by omega))
    · exact .inr ⟨by omega, wrap_low (by omega) (by omega)⟩
  unfold farP
  by_cases hv : v ≤ 1000000
  · have hx := h3 hv
    have hw : IntKind.wrap .i64 (x - k) = x - k := by
      rcases hw with hw | ⟨hw, _⟩
      · exact hw
      · exfalso
        cases neg <;> simp at hx <;> omega
    rw [hw, Nat.min_eq_left hv, hx]
  · have hx := h4 (by omega)
    rw [Nat.min_eq_right (by omega)]
    have l : (decide (IntKind.wrap .i64 (x - k) < -22) || decide (IntKind.wrap .i64 (x - k) > 22)) = true := by
      rw [Bool.or_eq_true, decide_eq_true_eq, decide_eq_true_eq]
      rcases hw with hw | ⟨_, hw⟩ <;> rw [hw] <;> omega
    have r : ∀ y : Int, (y = 1000000 ∨ y = -1000000) → (decide (y - (k : Int) < -22) || decide (y - (k : Int) > 22)) = true := by
      intro y hy
      rw [Bool.or_eq_true, decide_eq_true_eq, decide_eq_true_eq]
      omega
    rw [l]
    cases neg
    · exact (r _ (.inl rfl)).symm
    · exact (r _ (.inr rfl)).symm
theorem neq_nil : nifS BinOp.neq AV.nili = some (.bool false) := rfl
theorem neq_err (t : TypeId) (v : AV) : nifS BinOp.neq (AV.iface t v) = some (.bool true) := rfl
theorem atoi_near {l : List UInt8} (hs : l.length ≤ 1000000) {d : Nat} (hd : wh isDig (l.drop (sgn l)) = d) (h0 : 0 < d) (k : Nat) :
    ∃ x : Int, Near k (numV 0 ((l.drop (sgn l)).take d)) (decide (l.head? = some 45)) x ∧ ∀ {β : Type} (st : St) (K : Int → Car → Option β),
      (planS (orc vE) (primP (Prim.lib (libAtoi 135)) [AV.str (if ((l.take (sgn l + d)).take [(43 : UInt8)].length == [43]) = true then (l.take (sgn l + d)).drop [(43 : UInt8)].length else l.take (sgn l + d))]) st fun v63 st64 _x => unT v63 fun l66 => nthS l66 0 fun v67 => asI .i64 v67 fun n68 => unT v63 fun l69 => nthS l69 1 fun v70 => bindO (nifS BinOp.neq v70) fun v71 => asB
 v71 fun b72 => bindO (ifB b72 (some (([AV.int .i64 1073741824], st64) : Car)) (some ([AV.int .i64 n68], st64))) fun c73 => unc (Prod.fst c73) fun v74 l75 => asI .i64 v74 fun n76 => un0 l75 (K n76 c73)) = K x ([AV.int .i64 x], st) := by
  have hD : (l.drop (sgn l)).take d = (l.drop (sgn l)).takeWhile isDig := by rw [← hd, wh_take]
  have hall : ((l.drop (sgn l)).take d).all isDig = true := by rw [hD]; exact takeWhile_all _ _
  have hlen : ((l.drop (sgn l)).take d).length = d := by rw [hD, ← hd]; rfl
  have hne : (l.drop (sgn l)).take d ≠ [] := by
    intro e
    rw [e] at hlen
    simp at hlen; omega
  have fin : ∀ (D : List UInt8), D.length ≤ 1000001 → ∀ {β : Type} (st : St) (K : Int → Car → Option β) (x : Int), (Lib.atoiAll D = .ok x ∨ (Lib.atoiAll D = .range ∧ x = 1073741824)) →
      (planS (orc vE) (primP (Prim.lib (libAtoi 135)) [AV.str D]) st fun v63 st64 _x => unT v63 fun l66 => nthS l66 0 fun v67 => asI .i64 v67 fun n68 => unT v63 fun l69 => nthS l69 1 fun v70 => bindO (nifS BinOp.neq v70) fun v71 => asB
 v71 fun b72 => bindO (ifB b72 (some (([AV.int .i64 1073741824], st64) : Car)) (some ([AV.int .i64 n68], st64))) fun c73 => unc (Prod.fst c73) fun v74 l75 => asI .i64 v74 fun n76 => un0 l75 (K n76 c73)) = K x ([AV.int .i64 x], st) := by
    intro D hDl β st K x hx
    rcases hx with hx | ⟨hx, rfl⟩
    · have hl : libAtoi 135 [.str D] = .ok (.tup [.int .i64 x, .nili]) := by simp only [libAtoi, ble_of (show D.length ≤ 281474976710656 by omega), hx]
      simp only [planS_lib hl, unT_tup, nthS_zero, nthS_one, asI_int, neq_nil, bindO_ok, asB_bool, ifB_false, unc_cons, un0_nil]
    · have hl : libAtoi 135 [.str D] = .ok (.tup [.int .i64 (Lib.atoiSat D), .iface 135 (.opq false)]) := by simp only [libAtoi, ble_of (show D.length ≤ 281474976710656 by omega), hx]
      simp only [planS_lib hl, unT_tup, nthS_zero, nthS_one, asI_int, neq_err, bindO_ok, asB_bool, ifB_true, unc_cons, un0_nil]
  cases l with
  | nil => simp [sgn] at hne
  | cons c r =>
    by_cases c1 : c = 43
    · subst c1
      have e1 : sgn ((43 : UInt8) :: r) = 1 := rfl
      rw [e1] at hall hlen hne hD ⊢
      simp only [List.drop_succ_cons, List.drop_zero] at hall hlen hne hD ⊢
      have hp := atoi_plain hne hall
      have e2 : (if (((43 :: r).take (1 + d)).take [(43 : UInt8)].length == [43]) = true then ((43 : UInt8) :: r |>.take (1 + d)).drop [(43 : UInt8)].length else (43 :: r).take (1 + d)) = r.take d := by
        rw [Nat.add_comm 1 d]; rfl
      rw [e2]
      by_cases c2 : numV 0 (r.take d) < 9223372036854775808
      · rw [if_pos c2] at hp
        exact ⟨numV 0 (r.take d), ⟨by omega, by omega, fun _ => by simp, fun _ => by omega⟩, fun st K => fin _ (by rw [List.length_take]; simp at hs; omega) st K _ (.inl hp)⟩
      · rw [if_neg c2] at hp
        exact ⟨1073741824, ⟨by omega, by omega, fun _ => by omega, fun _ => by omega⟩, fun st K => fin _ (by rw [List.length_take]; simp at hs; omega) st K _ (.inr ⟨hp, rfl⟩)⟩
    · by_cases c3 : c = 45
      · subst c3
        have e1 : sgn ((45 : UInt8) :: r) = 1 := rfl
        rw [e1] at hall hlen hne hD ⊢
        simp only [List.drop_succ_cons, List.drop_zero] at hall hlen hne hD ⊢
        have hp := atoi_minus hne hall
        have e2 : (if (((45 :: r).take (1 + d)).take [(43 : UInt8)].length == [43]) = true then ((45 : UInt8) :: r |>.take (1 + d)).drop [(43 : UInt8)].length else (45 :: r).take (1 + d)) = 45 :: r.take d := by
          rw [Nat.add_comm 1 d]; rfl
        rw [e2]
        by_cases c2 : numV 0 (r.take d) ≤ 9223372036854775808
        · rw [if_pos c2] at hp
          exact ⟨-(numV 0 (r.take d) : Int), ⟨by omega, by omega, fun _ => by simp, fun _ => by omega⟩, fun st K => fin _ (by rw [List.length_cons, List.length_take]; simp at hs; omega) st K _ (.inl hp)⟩
        · rw [if_neg c2] at hp
          exact ⟨1073741824, ⟨by omega, by omega, fun _ => by omega, fun _ => by omega⟩, fun st K => fin _ (by rw [List.length_cons, List.length_take]; simp at hs; omega) st K _ (.inr ⟨hp, rfl⟩)⟩
      · have hsg : isSgn c = false := by simp [isSgn, c1, c3]
        have e1 : sgn (c :: r) = 0 := by simp only [sgn, hsg]; rfl
        rw [e1] at hall hlen hne hD ⊢
        simp only [List.drop_zero, Nat.zero_add] at hall hlen hne hD ⊢
        have hp := atoi_plain hne hall
        have e2 : (if (((c :: r).take d).take [(43 : UInt8)].length == [43]) = true then ((c :: r).take d).drop [(43 : UInt8)].length else (c :: r).take d) = (c :: r).take d := by
          rw [if_neg]
          intro e
          have e := eq_of_beq e
          cases d with
          | zero => simp at h0
          | succ d => simp at e; exact c1 e
        rw [e2]
        by_cases c2 : numV 0 ((c :: r).take d) < 9223372036854775808
        · rw [if_pos c2] at hp
          exact ⟨numV 0 ((c :: r).take d), ⟨by omega, by omega, fun _ => by simp [c3], fun _ => by omega⟩, fun st K => fin _ (by rw [List.length_take]; omega) st K _ (.inl hp)⟩
        · rw [if_neg c2] at hp
          exact ⟨1073741824, ⟨by omega, by omega, fun _ => by omega, fun _ => by omega⟩, fun st K => fin _ (by rw [List.length_take]; omega) st K _ (.inr ⟨hp, rfl⟩)⟩
theorem wh_one (p : UInt8 → Bool) (c : UInt8) (l : List UInt8) : wh p ((c :: l).take 1) = if p c then 1 else 0 := by
  show wh p [c] = _
  rw [wh_cons]; rfl
theorem min_take (s : List UInt8) (e : Nat) : s.take (min s.length e) = s.take e := by
  rcases Nat.le_total e s.length with h | h
  · rw [Nat.min_eq_right h]
  · rw [Nat.min_eq_left h, List.take_length, List.take_of_length_le h]
theorem min_int (a b : Nat) : (if (a : Int) < (b : Int) then (a : Int) else (b : Int)) = ((min a b : Nat) : Int) := by split <;> omega
theorem take_drop_one (s : List UInt8) (e n : Nat) : (s.take (e + n)).drop e = (s.drop e).take n := by
  rw [List.drop_take]; congr 1; omega
theorem last_part {all k : Nat} {x : Int} {e : Int} (st : St) (b : Bool) (hb : (decide (IntKind.wrap .i64 (x - k) < -22) || decide (IntKind.wrap .i64 (x - k) > 22)) = b) :
    (bindO (ifB (decide ((all : Int) > 15)) (some (([AV.bool true], st) : Car)) (letV (IntKind.wrap .i64 (x - (k : Int))) fun n94 => ifB (decide (n94 < -22)) (some ([AV.bool true], st)) (letV (IntKind.wrap .i64 (x - (k : Int))) fun n95 => some ([AV.bool (decide (n95 > 22))], st)))) fun c96 =>
 unc (Prod.fst c96) fun v97 l98 => asB v97 fun b99 => un0 l98 (ifB b99 (some (AV.tup [AV.int .u8 9, AV.int .i64 e])) (some (AV.tup [AV.int .u8 6, AV.int .i64 e])))) = some (AV.tup [AV.int .u8 (if all > 15 ∨ b = true then 9 else 6 : Int), AV.int .i64 e]) := by
  simp only [ifB_decide, letV_eq]
  by_cases c1 : (all : Int) > 15
  · have : all > 15 := by omega
    simp only [if_pos c1, bindO_ok, unc_cons, asB_bool, un0_nil, ifB_true, this, true_or, if_true]
  · have h1 : ¬ all > 15 := by omega
    rw [if_neg c1]
    by_cases c2 : IntKind.wrap .i64 (x - (k : Int)) < -22
    · have : b = true := by rw [← hb, decide_eq_true c2]; rfl
      subst this
      simp only [if_pos c2, bindO_ok, unc_cons, asB_bool, un0_nil, ifB_true, or_true, if_true]
    · rw [if_neg c2]
      have : b = decide (IntKind.wrap .i64 (x - (k : Int)) > 22) := by rw [← hb, decide_eq_false c2]; rfl
      subst this
      simp only [bindO_ok, unc_cons, asB_bool, un0_nil, h1, false_or]
      cases decide (IntKind.wrap .i64 (x - (k : Int)) > 22) <;> rfl
theorem number_ok {s : List UInt8} (hs : s.length ≤ 500000) : (orc vE).bare 56 [.str s] = some (if wh isDig s = 0 then .tup [.int .u8 5, .int .i64 0] else .tup [.int .u8 ((number s).1 : Int), .int .i64 ((number s).2 : Int)]) := by
  refine bare_of rfl ((g56_eq _).trans ?_)
  have hn := wh_le isDig s
  simp only [g56, asS_str, run_dig (show s.length ≤ 1000000 by omega), asI_int, ifB_beq]
  by_cases c0 : wh isDig s = 0
  · have c0' : ((wh isDig s : Nat) : Int) = 0 := by omega
    rw [if_pos c0', if_pos c0, c0]
    rfl
  have c0' : ¬ ((wh isDig s : Nat) : Int) = 0 := by omega
  simp only [if_neg c0', if_neg c0, uptoS_nat hn, List.take_length, letV_eq, call_prefix, asB_bool, bindO_ok, unc_cons, un0_nil]
  generalize hN : wh isDig s = n at hn c0 c0'
  have hpre : ((s.drop n).take [(46 : UInt8)].length == [46]) = decide ((s.drop n).head? = some 46) := by
    cases s.drop n with
    | nil => rfl
    | cons c l =>
      show ([c] == [46]) = _
      by_cases h : c = 46
      · subst h; rfl
      · simp [h]
  rw [hpre]
  unfold number
  rw [hN]
  by_cases cd : (s.drop n).head? = some 46
  · have hlt : n < s.length := by
      rcases Nat.lt_or_ge n s.length with q | q
      · exact q
      · rw [List.drop_of_length_le q] at cd; cases cd
    simp only [cd, decide_true, Bool.not_true, ifB_false, if_true]
    have hk := wh_le isDig (s.drop (n + 1))
    rw [List.length_drop] at hk
    have hl2 : (s.drop (n + 1)).length ≤ 1000000 := by rw [List.length_drop]; omega
    simp only [wrapA1 (show n + 1 ≤ 9223372036854775807 by omega), uptoS_nat (show n + 1 ≤ s.length by omega), List.take_length, run_dig hl2, asI_int]
    generalize hK : wh isDig (s.drop (n + 1)) = k at hk
    simp only [wrapA (show n + k ≤ 9223372036854775807 by omega), wrapA (show n + 1 + k ≤ 9223372036854775807 by omega), wrapA1 (show n + 1 + k + 1 ≤ 9223372036854775807 by omega), min_int, uptoS_nat (Nat.min_le_left s.length (n + 1 + k + 1)), uptoS_nat (show n + 1 + k ≤ min s.length (n + 1 + k + 1) by omega), min_take, take_drop_one]
    generalize hE : n + 1 + k = e at *
    have hle : e ≤ s.length := by omega
    have hl3 : ((s.drop e).take 1).length ≤ 1000000 := by rw [List.length_take, List.length_drop]; omega
    simp only [run_e hl3, asI_int, ifB_decide]
    have none_case : ∀ (x : Nat × Int), x = (0, 0) → (bindO (ifB (decide (((n + k : Nat) : Int) > 15)) (some (([AV.bool true], St.mk 0 0 Tr.leaf) : Car)) (letV (IntKind.wrap .i64 ((0 : Int) - (k : Int))) fun n94 => ifB (decide (n94 < -22)) (some ([AV.bool true], St.mk 0 0 Tr.leaf)) (letV (IntKind.wrap .i64 ((0 : Int) - (k : Int))) fun n95 => some ([AV.bool (decide (n95 > 22))], St.mk 0 0 Tr.leaf)))) fun c96 =>
 unc (Prod.fst c96) fun v97 l98 => asB v97 fun b99 => un0 l98 (ifB b99 (some (AV.tup [AV.int .u8 9, AV.int .i64 (e : Int)])) (some (AV.tup [AV.int .u8 6, AV.int .i64 (e : Int)])))) = some (AV.tup [AV.int .u8 ((if n + k > 15 ∨ x.2 - (k : Int) < -22 ∨ x.2 - (k : Int) > 22 then 9 else 6 : Nat) : Int), AV.int .i64 ((e + x.1 : Nat) : Int)]) := by
      rintro _ rfl
      have hw : IntKind.wrap .i64 ((0 : Int) - (k : Int)) = 0 - (k : Int) := wrap_i64 (by omega) (by omega)
      rw [last_part (St.mk 0 0 Tr.leaf) (decide ((0 : Int) - k < -22) || decide ((0 : Int) - k > 22)) (by rw [hw])]
      simp only [Bool.or_eq_true, decide_eq_true_eq, Nat.add_zero]
      by_cases h : n + k > 15 ∨ (0 : Int) - (k : Int) < -22 ∨ (0 : Int) - (k : Int) > 22
      · rw [if_pos h, if_pos h]; rfl
      · rw [if_neg h, if_neg h]; rfl
    simp only [ifB_decide, letV_eq] at none_case
    cases ht : s.drop e with
    | nil =>
      have h0 : ¬ (((wh isE ([].take 1) : Nat) : Int) > 0) := by simp [wh]
      simp only [if_neg h0, bindO_ok, unc_cons, asI_int, un0_nil]
      exact none_case _ rfl
    | cons c l =>
      have hcl : s.drop (e + 1) = l := by rw [← List.drop_drop, ht]; rfl
      have hel : e < s.length := by
        rcases Nat.lt_or_ge e s.length with q | q
        · exact q
        · rw [List.drop_of_length_le q] at ht; cases ht
      have hll : l.length = s.length - (e + 1) := by rw [← hcl, List.length_drop]
      rw [wh_one]
      cases hc : isE c with
      | false =>
        have hx : expo (c :: l) = (0, 0) := by
          unfold expo
          have : ¬ (c = 101 ∨ c = 69) := by
            intro h
            rcases h with rfl | rfl <;> cases hc
          simp only [if_neg this]
        simp only [Bool.false_eq_true, if_false, show ¬ (((0 : Nat) : Int) > 0) by omega, bindO_ok, unc_cons, asI_int, un0_nil]
        exact none_case _ hx
      | true =>
        have hc' : c = 101 ∨ c = 69 := by simpa [isE] using hc
        have hsl := sgn_le l
        have hsl1 : sgn l ≤ 1 := by
          cases l with
          | nil => simp [sgn]
          | cons c l => simp only [sgn]; split <;> omega
        have hsg : wh isSgn (l.take 1) = sgn l := by
          cases l with
          | nil => rfl
          | cons c l => rw [wh_one]; rfl
        simp only [if_true, show (((1 : Nat) : Int) > 0) by omega]
        simp only [wrapA1 (show e + 1 ≤ 9223372036854775807 by omega), wrapA2 (show e + 2 ≤ 9223372036854775807 by omega), min_int, uptoS_nat (Nat.min_le_left s.length (e + 2)), uptoS_nat (show e + 1 ≤ min s.length (e + 2) by omega), min_take, letV_eq, show (s.take (e + 2)).drop (e + 1) = l.take 1 by rw [← hcl]; exact take_drop_one s (e + 1) 1, run_sgn (show (l.take 1).length ≤ 1000000 by rw [List.length_take]; omega), asI_int, hsg, wrapA (show e + 1 + sgn l ≤ 9223372036854775807 by omega), uptoS_nat (show e + 1 + sgn l ≤ s.length by omega), List.take_length]
        have hd5 : s.drop (e + 1 + sgn l) = l.drop (sgn l) := by rw [← List.drop_drop, hcl]
        have hl5 : (l.drop (sgn l)).length ≤ 1000000 := by rw [List.length_drop]; omega
        simp only [hd5, run_dig hl5, asI_int]
        have hD := wh_le isDig (l.drop (sgn l))
        rw [List.length_drop] at hD
        generalize hdd : wh isDig (l.drop (sgn l)) = d at hD
        by_cases cz : d = 0
        · subst cz
          have hx : expo (c :: l) = (0, 0) := by
            simp only [expo, if_pos hc', hdd, if_true]
          simp only [show ¬ (((0 : Nat) : Int) > 0) by omega, ifB_decide, if_false, bindO_ok, unc_cons, asI_int, un0_nil]
          exact none_case _ hx
        · have cz' : ((d : Nat) : Int) > 0 := by omega
          have hx : expo (c :: l) = (1 + sgn l + d, if l.head? = some 45 then -((min (numV 0 ((l.drop (sgn l)).take d)) 1000000 : Nat) : Int) else ((min (numV 0 ((l.drop (sgn l)).take d)) 1000000 : Nat) : Int)) := by
            simp only [expo, if_pos hc', hdd, if_neg cz]
          obtain ⟨x, hN2, hat⟩ := atoi_near (by omega) hdd (by omega) k
          have hf := near_far hN2 (show k ≤ 500000 by omega)
          have hsub : (s.take (e + 1 + sgn l + d)).drop (e + 1) = l.take (sgn l + d) := by
            have := take_drop_one s (e + 1) (sgn l + d)
            rw [hcl, ← Nat.add_assoc] at this
            exact this
          simp only [ifB_decide, if_pos cz', wrapA (show e + 1 + sgn l + d ≤ 9223372036854775807 by omega), uptoS_nat (show e + 1 + sgn l + d ≤ s.length by omega), uptoS_nat (show e + 1 ≤ e + 1 + sgn l + d by omega), hsub, call_trim, asS_str, hat, letV_eq, bindO_ok, unc_cons, asI_int, un0_nil]
          have hl := last_part (all := n + k) (e := ((e + 1 + sgn l + d : Nat) : Int)) (St.mk 0 0 Tr.leaf) _ hf
          simp only [ifB_decide, letV_eq] at hl
          rw [hl, hx]
          have e1 : e + (1 + sgn l + d) = e + 1 + sgn l + d := by omega
          simp only [e1]
          unfold farP
          simp only [Bool.or_eq_true, decide_eq_true_eq]
          by_cases c5 : l.head? = some 45
          · simp only [c5, if_true]
            split <;> rfl
          · simp only [c5, if_false]
            split <;> rfl
  · simp only [cd, decide_false, Bool.not_false, ifB_true, if_false]
    rfl
end Go.Proofs.YtflnfagdpoddiaaGreatDoor.Vm
set_option maxRecDepth 100000
set_option linter.unusedSimpArgs false
namespace Go.Proofs.YtflnfagdpoddiaaGreatDoor.Vm
open Go Go.VM Go.Proofs Go.Lex

theorem esc_ok (c : UInt8) : decide (idxB [110, 116, 92, 34] c ≥ 0) = isEsc c := by
  have := all_bytes (p := fun c => decide (idxB [110, 116, 92, 34] c ≥ 0) == isEsc c) (by decide +kernel) c
  exact eq_of_beq this
theorem find_cons (n : Nat) (b : UInt8) (l : List UInt8) : findByte n (b :: l) = if b.toNat = n then some 0 else (findByte n l).map (· + 1) := by
  show (match b.toNat.beq n with | true => some 0 | false => match findByte n l with | some i => some (i + 1) | none => none) = _
  cases h : b.toNat.beq n with
  | true => rw [if_pos (Nat.eq_of_beq_eq_true h)]
  | false =>
    rw [if_neg (Nat.ne_of_beq_eq_false h)]
    cases findByte n l <;> rfl
theorem badT_find : ∀ (r : List UInt8), (∀ b ∈ r, b ≠ 10) → badT r = match findByte 34 r with | some j => j + 1 | none => r.length
  | [], _ => rfl
  | c :: r, h => by
    have ih := badT_find r fun b hb => h b (List.mem_cons_of_mem _ hb)
    rw [find_cons]
    simp only [badT, if_neg (h c (by simp))]
    by_cases hc : c = 34
    · subst hc; rfl
    · have : ¬ c.toNat = 34 := fun e => hc (UInt8.toNat_inj.1 e)
      rw [if_neg hc, if_neg this, ih]
      cases findByte 34 r <;> rfl
theorem badT_line : ∀ (r : List UInt8), badT r = badT (r.takeWhile fun b => b != 10)
  | [] => rfl
  | c :: r => by
    by_cases h : c = 10
    · subst h; rfl
    · have e : (c != 10) = true := by simpa using h
      rw [List.takeWhile_cons, if_pos e]
      simp only [badT, if_neg h]
      rw [badT_line r]
theorem txt_line : ∀ (l : List UInt8), txt l = txt (l.takeWhile fun b => b != 10)
  | [] => rfl
  | [c] => by
    by_cases h : c = 10
    · subst h; rfl
    · have e : (c != 10) = true := by simpa using h
      rw [List.takeWhile_cons, if_pos e]; rfl
  | c :: d :: l => by
    have h1 := txt_line l
    have h2 := txt_line (d :: l)
    have h3 := badT_line (d :: l)
    by_cases h : c = 10
    · subst h; rfl
    have e : (c != 10) = true := by simpa using h
    rw [List.takeWhile_cons, if_pos e]
    by_cases hq : c = 34
    · subst hq
      cases hr : (d :: l).takeWhile fun b => b != 10 with
      | nil => rfl
      | cons a r => rfl
    by_cases hb : c = 92
    · subst hb
      by_cases hd : d = 10
      · subst hd; rfl
      · have ed : (d != 10) = true := by simpa using hd
        rw [List.takeWhile_cons, if_pos ed] at h2 h3 ⊢
        simp only [txt, h, hq, if_false, if_true]
        split
        · rw [h1]
        · rw [h3]
    · cases hr : (d :: l).takeWhile fun b => b != 10 with
      | nil =>
        rw [hr] at h2
        simp only [txt, if_neg h, if_neg hq, if_neg hb, h2]
      | cons a r =>
        rw [hr] at h2
        simp only [txt, if_neg h, if_neg hq, if_neg hb, h2]
theorem text_loop (line : List UInt8) (hno : ∀ b ∈ line, b ≠ 10) (hs : line.length ≤ 1000000) (st : St) : ∀ (r : List UInt8) (i : Nat), line.drop i = r → i ≤ line.length →
    (loopO (g57_L1 line) ([.int .u8 0, .int .i64 0, .int .i64 (i : Int)], st) = some (1, [.int .u8 ((txt r).1 : Int), .int .i64 ((i + (txt r).2 : Nat) : Int)], st)) ∨
    (loopO (g57_L1 line) ([.int .u8 0, .int .i64 0, .int .i64 (i : Int)], st) = some (0, [.int .u8 0, .int .i64 0], st) ∧ txt r = (9, r.length))
  | [], i, hd, hi => by
    have := List.drop_eq_nil_iff.1 hd
    have q : ¬ (i : Int) < (line.length : Int) := by omega
    refine .inr ⟨loopO_inr ?_, rfl⟩
    simp only [g57_L1, unc_cons, asI_int, un0_nil, ifB_decide, if_neg q]
  | [c], i, hd, hi => by
    obtain ⟨hg, hr, hlt⟩ := drop_cons hd
    have hnil := List.drop_eq_nil_iff.1 hr
    have q : (i : Int) < (line.length : Int) := by omega
    have hc : line[i] = c := getElem_of hlt hg
    have h10 : c ≠ 10 := hno c (List.mem_of_getElem? hg)
    by_cases c1 : c = 34
    · subst c1
      refine .inl (loopO_inr ?_)
      have z : ((UInt8.toNat (34 : UInt8) : Nat) : Int) = 34 := rfl
      simp only [g57_L1, unc_cons, asI_int, un0_nil, ifB_decide, if_pos q, idxStr_nat hlt, hc, z, ifB_beq, if_true, letV_eq, wrapA1 (show i + 1 ≤ 9223372036854775807 by omega), bindO_ok, onSum_inr]
      rfl
    · have z1 : ¬ ((c.toNat : Nat) : Int) = 34 := byte_ne (d := 34) c1
      by_cases c2 : c = 92
      · subst c2
        have z2 : ((UInt8.toNat (92 : UInt8) : Nat) : Int) = 92 := rfl
        have z3 : ¬ ((92 : Int) = 34) := by omega
        have q2 : ¬ ((i + 1 : Nat) : Int) < (line.length : Int) := by omega
        have hix : idxB [92] 34 = -1 := rfl
        have cix := fun {β : Type} (st : St) (K : Kv β) => call_index [92] 34 st K
        have z34 : ((UInt8.toNat (34 : UInt8) : Nat) : Int) = 34 := rfl
        simp only [z34] at cix
        have el : line.length = i + 1 := by omega
        have e1 : txt [92] = (9, 1) := rfl
        refine .inl (loopO_inr ?_)
        simp only [g57_L1, unc_cons, asI_int, un0_nil, ifB_decide, if_pos q, idxStr_nat hlt, hc, z2, ifB_beq, if_neg z3, if_true, letV_eq, wrapA1 (show i + 1 ≤ 9223372036854775807 by omega), if_neg q2, bindO_ok, asB_bool, ifB_false, uptoS_nat (show i ≤ line.length by omega), List.take_length, hd, cix, hix, show ¬ ((-1 : Int) ≥ 0) by omega, if_false, onSum_inr, e1]
        rw [el]; rfl
      · have z2 : ¬ ((c.toNat : Nat) : Int) = 92 := byte_ne (d := 92) c2
        refine .inr ⟨?_, by simp only [txt, if_neg h10, if_neg c1]; rfl⟩
        have ih := text_loop line hno hs st [] (i + 1) hr (by omega)
        rw [loopO_inl (s' := ([.int .u8 0, .int .i64 0, .int .i64 ((i + 1 : Nat) : Int)], st))]
        · rcases ih with ih | ih
          · exfalso
            have q2 : ¬ ((i + 1 : Nat) : Int) < (line.length : Int) := by omega
            have e : loopO (g57_L1 line) ([.int .u8 0, .int .i64 0, .int .i64 ((i + 1 : Nat) : Int)], st) = some (0, [.int .u8 0, .int .i64 0], st) := loopO_inr (by simp only [g57_L1, unc_cons, asI_int, un0_nil, ifB_decide, if_neg q2])
            rw [e] at ih; cases ih
          · exact ih.1
        · simp only [g57_L1, unc_cons, asI_int, un0_nil, ifB_decide, if_pos q, idxStr_nat hlt, hc, ifB_beq, if_neg z1, if_neg z2, bindO_ok, onSum_inl, letV_eq, wrapA1 (show i + 1 ≤ 9223372036854775807 by omega)]
  | c :: d :: l, i, hd, hi => by
    obtain ⟨hg, hr, hlt⟩ := drop_cons hd
    obtain ⟨hg2, hr2, hlt2⟩ := drop_cons hr
    have q : (i : Int) < (line.length : Int) := by omega
    have q2 : ((i + 1 : Nat) : Int) < (line.length : Int) := by omega
    have hc : line[i] = c := getElem_of hlt hg
    have hc2 : line[i + 1] = d := getElem_of hlt2 hg2
    have h10 : c ≠ 10 := hno c (List.mem_of_getElem? hg)
    by_cases c1 : c = 34
    · subst c1
      refine .inl (loopO_inr ?_)
      have z : ((UInt8.toNat (34 : UInt8) : Nat) : Int) = 34 := rfl
      simp only [g57_L1, unc_cons, asI_int, un0_nil, ifB_decide, if_pos q, idxStr_nat hlt, hc, z, ifB_beq, if_true, letV_eq, wrapA1 (show i + 1 ≤ 9223372036854775807 by omega), bindO_ok, onSum_inr]
      rfl
    · have z1 : ¬ ((c.toNat : Nat) : Int) = 34 := byte_ne (d := 34) c1
      by_cases c2 : c = 92
      · subst c2
        have z2 : ((UInt8.toNat (92 : UInt8) : Nat) : Int) = 92 := rfl
        have z3 : ¬ ((92 : Int) = 34) := by omega
        have hesc := esc_ok d
        cases he : isEsc d with
        | true =>
          rw [he] at hesc
          have hesc' := of_decide_eq_true hesc
          have ih := text_loop line hno hs st l (i + 2) hr2 (by omega)
          have step : loopO (g57_L1 line) ([.int .u8 0, .int .i64 0, .int .i64 (i : Int)], st) = loopO (g57_L1 line) ([.int .u8 0, .int .i64 0, .int .i64 ((i + 2 : Nat) : Int)], st) := by
            refine loopO_inl ?_
            simp only [g57_L1, unc_cons, asI_int, un0_nil, ifB_decide, if_pos q, idxStr_nat hlt, hc, z2, ifB_beq, if_neg z3, if_true, letV_eq, wrapA1 (show i + 1 ≤ 9223372036854775807 by omega), if_pos q2, idxStr_nat hlt2, hc2, call_index, bindO_ok, asB_bool, if_pos hesc', onSum_inl, wrapA1 (show i + 1 + 1 ≤ 9223372036854775807 by omega)]
          have e1 : txt (92 :: d :: l) = ((txt l).1, (txt l).2 + 2) := by
            simp only [txt, he, if_true]; rfl
          rw [step, e1]
          rcases ih with ih | ⟨ih, e2⟩
          · refine .inl (ih.trans ?_)
            show some (_, [_, AV.int .i64 ((i + 2 + (txt l).2 : Nat) : Int)], st) = _
            rw [show i + 2 + (txt l).2 = i + ((txt l).2 + 2) by omega]
          · exact .inr ⟨ih, by rw [e2]; rfl⟩
        | false =>
          rw [he] at hesc
          have hesc' := of_decide_eq_false hesc
          have e1 : txt (92 :: d :: l) = (9, badT (d :: l) + 1) := by
            simp only [txt, he]; rfl
          have hb := badT_find (d :: l) fun b hb => hno b (by
            have : b ∈ line.drop (i + 1) := by rw [hr]; exact hb
            exact List.mem_of_mem_drop this)
          have cix := fun {β : Type} (st : St) (K : Kv β) => call_index (92 :: d :: l) 34 st K
          have z34 : ((UInt8.toNat (34 : UInt8) : Nat) : Int) = 34 := rfl
          simp only [z34] at cix
          have hl : line.length = i + 2 + l.length := by
            have := congrArg List.length hd
            rw [List.length_drop] at this
            simp at this; omega
          rw [e1]
          refine .inl (loopO_inr ?_)
          have hix : idxB (92 :: d :: l) 34 = match findByte 34 (d :: l) with | some j => ((j + 1 : Nat) : Int) | none => -1 := by
            unfold idxB
            rw [show (UInt8.toNat (34 : UInt8)) = 34 from rfl, find_cons, if_neg (by decide)]
            cases findByte 34 (d :: l) <;> rfl
          simp only [g57_L1, unc_cons, asI_int, un0_nil, ifB_decide, if_pos q, idxStr_nat hlt, hc, z2, ifB_beq, if_neg z3, if_true, letV_eq, wrapA1 (show i + 1 ≤ 9223372036854775807 by omega), if_pos q2, idxStr_nat hlt2, hc2, call_index, bindO_ok, asB_bool, if_neg hesc', uptoS_nat (show i ≤ line.length by omega), List.take_length, hd, cix, hix]
          rw [hb]
          cases hf : findByte 34 (d :: l) with
          | none =>
            simp only [show ¬ ((-1 : Int) ≥ 0) by omega, if_false, bindO_ok, onSum_inr]
            rw [show line.length = i + ((d :: l).length + 1) by simp; omega]; rfl
          | some j =>
            have hj : j + 1 ≤ (d :: l).length := by
              have h1 := badT_le (d :: l)
              rw [hb, hf] at h1
              exact h1
            simp only [List.length_cons] at hj
            simp only [show (((j + 1 : Nat) : Int) ≥ 0) by omega, if_true, wrapA (show i + (j + 1) ≤ 9223372036854775807 by omega), wrapA1 (show i + (j + 1) + 1 ≤ 9223372036854775807 by omega), bindO_ok, onSum_inr]
            rfl
      · have z2 : ¬ ((c.toNat : Nat) : Int) = 92 := byte_ne (d := 92) c2
        have ih := text_loop line hno hs st (d :: l) (i + 1) hr (by omega)
        have step : loopO (g57_L1 line) ([.int .u8 0, .int .i64 0, .int .i64 (i : Int)], st) = loopO (g57_L1 line) ([.int .u8 0, .int .i64 0, .int .i64 ((i + 1 : Nat) : Int)], st) := by
          refine loopO_inl ?_
          simp only [g57_L1, unc_cons, asI_int, un0_nil, ifB_decide, if_pos q, idxStr_nat hlt, hc, ifB_beq, if_neg z1, if_neg z2, bindO_ok, onSum_inl, letV_eq, wrapA1 (show i + 1 ≤ 9223372036854775807 by omega)]
        have e1 : txt (c :: d :: l) = ((txt (d :: l)).1, (txt (d :: l)).2 + 1) := by
          simp only [txt, if_neg h10, if_neg c1, if_neg c2]
        rw [step, e1]
        rcases ih with ih | ⟨ih, e2⟩
        · refine .inl (ih.trans ?_)
          show some (_, [_, AV.int .i64 ((i + 1 + (txt (d :: l)).2 : Nat) : Int)], st) = _
          rw [show i + 1 + (txt (d :: l)).2 = i + ((txt (d :: l)).2 + 1) by omega]
        · exact .inr ⟨ih, by rw [e2]; rfl⟩
theorem find_line : ∀ (s : List UInt8), (match findByte 10 s with | some k => s.take k | none => s) = s.takeWhile fun b => b != 10
  | [] => rfl
  | c :: l => by
    have ih := find_line l
    rw [find_cons, List.takeWhile_cons]
    by_cases h : c = 10
    · subst h; rfl
    · have e : (c != 10) = true := by simpa using h
      have : ¬ c.toNat = 10 := fun k => h (UInt8.toNat_inj.1 k)
      rw [if_neg this, if_pos e, ← ih]
      cases findByte 10 l <;> rfl
theorem find_lt : ∀ (s : List UInt8) (n k : Nat), findByte n s = some k → k < s.length
  | [], _, _, h => by cases h
  | c :: l, n, k, h => by
    rw [find_cons] at h
    split at h
    · cases h; simp
    · obtain ⟨m, hm, rfl⟩ := Option.map_eq_some_iff.1 h
      have := find_lt l n m hm
      simp; omega
theorem text_ok {c : UInt8} {l : List UInt8} (hs : (c :: l).length ≤ 1000000) : (orc vE).bare 57 [.str (c :: l)] = some (if c = 34 then .tup [.int .u8 ((txt l).1 : Int), .int .i64 (((txt l).2 + 1 : Nat) : Int)] else .tup [.int .u8 0, .int .i64 0]) := by
  refine bare_of rfl ((g57_eq _).trans ?_)
  have i0 : ∀ {β : Type} (K : UInt8 → Option β), idxStr (c :: l) 0 K = K c := fun K => idxStr_nat (k := 0) (by simp) K
  by_cases h : c = 34
  · subst h
    have z : (((UInt8.toNat (34 : UInt8) : Nat) : Int) != 34) = false := rfl
    have cix := fun {β : Type} (st : St) (K : Kv β) => call_index (34 :: l) 10 st K
    have z10 : ((UInt8.toNat (10 : UInt8) : Nat) : Int) = 10 := rfl
    simp only [z10] at cix
    have hline := find_line (34 :: l)
    have hw : (34 :: l).takeWhile (fun b => b != 10) = 34 :: l.takeWhile (fun b => b != 10) := by rw [List.takeWhile_cons]; rfl
    rw [hw] at hline
    have hno : ∀ b ∈ (34 :: l.takeWhile (fun b => b != 10) : List UInt8), b ≠ 10 := by
      intro b hb
      rcases List.mem_cons.1 hb with rfl | hb
      · decide
      · have := List.all_eq_true.1 (takeWhile_all (fun b => b != 10) l) b hb
        simpa using this
    have hll : (34 :: l.takeWhile (fun b => b != 10) : List UInt8).length ≤ 1000000 := by
      have := (List.takeWhile_sublist (p := fun b => b != 10) (l := l)).length_le
      simp at hs ⊢; omega
    have hlp := text_loop (34 :: l.takeWhile (fun b => b != 10)) hno hll (St.mk 0 0 Tr.leaf) (l.takeWhile fun b => b != 10) 1 rfl (by simp)
    rw [← txt_line l] at hlp
    have first : ∀ (K : Car → Option AV), (bindO (ifB (decide (idxB (34 :: l) 10 ≥ 0)) (uptoS (idxB (34 :: l) 10) (34 :: l : List UInt8).length fun k6 => letV (List.drop 0 (List.take k6 (34 :: l))) fun l7 => some (([AV.str l7], St.mk 0 0 Tr.leaf) : Car)) (some ([AV.str (34 :: l)], St.mk 0 0 Tr.leaf))) K) = K ([AV.str (34 :: l.takeWhile fun b => b != 10)], St.mk 0 0 Tr.leaf) := by
      intro K
      unfold idxB
      rw [show UInt8.toNat (10 : UInt8) = 10 from rfl]
      cases hf : findByte 10 (34 :: l) with
      | none =>
        rw [hf] at hline
        have hline : (34 :: l) = 34 :: l.takeWhile (fun b => b != 10) := hline
        simp only [ifB_decide, show ¬ ((-1 : Int) ≥ 0) by omega, if_false, bindO_ok]
        rw [← hline]
      | some k =>
        rw [hf] at hline
        have hline : (34 :: l).take k = 34 :: l.takeWhile (fun b => b != 10) := hline
        have hk := find_lt _ _ _ hf
        simp only [ifB_decide, show ((k : Int) ≥ 0) by omega, if_true, uptoS_nat (show k ≤ (34 :: l : List UInt8).length by omega), List.drop_zero, letV_eq, hline, bindO_ok]
    simp only [g57, asS_str, i0, z, ifB_false, cix, asI_int]
    rw [first]
    simp only [unc_cons, asS_str, un0_nil, if_true]
    rcases hlp with hlp | ⟨hlp, e2⟩
    · have hlp : loopO (g57_L1 (34 :: l.takeWhile fun b => b != 10)) ([.int .u8 0, .int .i64 0, .int .i64 1], St.mk 0 0 Tr.leaf) = _ := hlp
      rw [hlp]
      simp only [bindO_ok, unc_cons, asI_int, un0_nil, sel2_one]
      rw [Nat.add_comm 1]
    · have hlp : loopO (g57_L1 (34 :: l.takeWhile fun b => b != 10)) ([.int .u8 0, .int .i64 0, .int .i64 1], St.mk 0 0 Tr.leaf) = _ := hlp
      rw [hlp, e2]
      simp only [bindO_ok, unc_cons, asI_int, un0_nil, sel2_zero]
      rfl
  · have z : ((c.toNat : Int) != 34) = true := by
      have h' : ¬ ((c.toNat : Nat) : Int) = 34 := byte_ne (d := 34) h
      rw [bne, beq_false_of_ne h']; rfl
    simp only [g57, asS_str, i0, z, ifB_true, if_neg h]
theorem sign_ok {c : UInt8} {l : List UInt8} : (orc vE).bare 58 [.str (c :: l)] = some (if twos.contains ((c :: l).take 2) then .tup [.int .u8 8, .int .i64 2] else .tup [.int .u8 8, .int .i64 (if isOne c then 1 else 0)]) := by
  refine bare_of rfl ((g58_eq _).trans ?_)
  have h1 : (c :: l).take 1 = [c] := rfl
  have h2 : wh isOne [c] = if isOne c then 1 else 0 := by rw [wh_cons]; rfl
  have tail : ∀ (st : St), (chk (Nat.ble 1 (c :: l).length) (letV (List.drop 0 (List.take 1 (c :: l))) fun l50 => callS (orc vE) 69 [AV.str l50, AV.str [40, 41, 91, 93, 44, 59, 124, 61, 60, 62, 43, 45, 42, 47, 94, 64]] st fun v51 _x _x_1 => asI .i64 v51 fun n54 => letV (if n54 < 1 then n54 else 1) fun n55 => some (AV.tup [AV.int .u8 8, AV.int .i64 n55]))) = some (.tup [.int .u8 8, .int .i64 (if isOne c then 1 else 0)]) := by
    intro st
    simp only [ble_of (show 1 ≤ (c :: l).length by simp), chk_true, letV_eq, h1, List.drop_zero, run_one (show [c].length ≤ 1000000 by simp), asI_int, h2]
    cases isOne c <;> rfl
  by_cases hl : ((c :: l).length : Int) > 1
  · have hl2 : 2 ≤ (c :: l).length := by omega
    simp only [g58, asS_str, ifB_decide, if_pos hl, ble_of hl2, chk_true, List.drop_zero, letV_eq]
    generalize (c :: l).take 2 = w
    cases hw : twos.contains w with
    | true =>
      have hm : w ∈ twos := List.contains_iff_mem.1 hw
      simp only [twos, List.mem_cons, List.not_mem_nil, or_false] at hm
      rcases hm with rfl | rfl | rfl | rfl | rfl | rfl | rfl | rfl | rfl | rfl | rfl <;> rfl
    | false =>
      simp only [twos, List.contains_cons, List.contains_nil, Bool.or_eq_false_iff] at hw
      obtain ⟨w1, w2, w3, w4, w5, w6, w7, w8, w9, w10, w11, _⟩ := hw
      simp only [w1, w2, w3, w4, w5, w6, w7, w8, w9, w10, w11, ifB_false, bindO_ok, unc_cons, asB_bool, un0_nil, onSum_inl, asI_int]
      exact tail _
  · have hl0 : l = [] := by
      cases l with
      | nil => rfl
      | cons d l => simp at hl; omega
    subst hl0
    have hw : twos.contains ([c].take 2) = false := by
      simp [twos]
    simp only [g58, asS_str, ifB_decide, if_neg hl, bindO_ok, onSum_inl, unc_cons, asI_int, un0_nil, hw]
    exact tail _
def chN (s : List UInt8) : Nat := if szL s = 0 then 1 else szL s
theorem decode_ch {s : List UInt8} (h : s ≠ []) : ∃ r n : Int, libDecode [.str s] = .ok (.tup [.int .i32 r, .int .i64 n]) ∧ ((szL s = 0 ∧ r = 65533 ∧ n = 1) ∨ (szL s ≠ 0 ∧ n = szL s ∧ (szL s = 1 → r ≠ 65533))) := by
  cases s with
  | nil => exact absurd rfl h
  | cons c l =>
    have e : libDecode [.str (c :: l)] = .ok (.tup [.int .i32 ((Lib.decodeL (c :: l)).1 : Int), .int .i64 ((Lib.decodeL (c :: l)).2 : Int)]) := by
      rw [Lib.decodeL_N]; rfl
    refine ⟨_, _, e, ?_⟩
    rcases szL_decode (c :: l) with ⟨h1, h2⟩ | ⟨h1, h2, h3⟩ | ⟨h1, h2⟩
    · exact .inl ⟨h1, by rw [h2]; rfl, by rw [h2]; rfl⟩
    · refine .inr ⟨by omega, by rw [h3, h1], fun _ => ?_⟩
      rw [h3]
      show (((c :: l).getD 0 0).toNat : Int) ≠ 65533
      omega
    · exact .inr ⟨by omega, by rw [h2], fun h => by omega⟩
theorem rune_ok {s : List UInt8} (h : s ≠ []) : ∃ r : Int, (orc vE).bare 75 [.str s] = some (.tup [.int .i64 r, .int .i64 (chN s : Int)]) := by
  obtain ⟨r, n, e, hc⟩ := decode_ch h
  have hne : (s == []) = false := by simpa using h
  rcases hc with ⟨h1, rfl, rfl⟩ | ⟨h1, rfl, h2⟩
  · refine ⟨-1, bare_of rfl ((g75_eq _).trans ?_)⟩
    simp only [g75, asS_str, hne, ifB_false, planS_lib e, unT_tup, nthS_zero, nthS_one, asI_int, ifB_beq, if_true, bindO_ok, unc_cons, asB_bool, un0_nil, ifB_decide, show ((1 : Int) < 2) by omega, chN, if_pos h1]
    rfl
  · refine ⟨IntKind.wrap .i64 r, bare_of rfl ((g75_eq _).trans ?_)⟩
    by_cases c1 : r = 65533
    · have : ¬ szL s = 1 := fun k => h2 k c1
      have : ¬ ((szL s : Int) < 2) := by omega
      simp only [g75, asS_str, hne, ifB_false, planS_lib e, unT_tup, nthS_zero, nthS_one, asI_int, ifB_beq, if_pos c1, bindO_ok, unc_cons, asB_bool, un0_nil, ifB_decide, if_neg this, letV_eq, chN, if_neg h1]
    · simp only [g75, asS_str, hne, ifB_false, planS_lib e, unT_tup, nthS_zero, nthS_one, asI_int, ifB_beq, if_neg c1, bindO_ok, unc_cons, asB_bool, un0_nil, letV_eq, chN, if_neg h1]
theorem bad_ok {s : List UInt8} (h : s ≠ []) : (orc vE).bare 59 [.str s] = some (.tup [.int .u8 9, .int .i64 (chN s : Int)]) := by
  refine bare_of rfl ((g59_eq _).trans ?_)
  obtain ⟨r, e⟩ := rune_ok h
  have e' : ∀ {β : Type} (st : St) (K : Kv β), callS (orc vE) 75 [.str s] st K = K (.tup [.int .i64 r, .int .i64 (chN s : Int)]) st q0 := fun st K => callS_bare st K rfl rfl rfl e
  simp only [g59, asS_str, e', unT_tup, nthS_zero, nthS_one, asI_int]
end Go.Proofs.YtflnfagdpoddiaaGreatDoor.Vm
set_option maxRecDepth 100000
set_option linter.unusedSimpArgs false
namespace Go.Proofs.YtflnfagdpoddiaaGreatDoor.Vm
open Go Go.VM Go.Proofs Go.Lex

def ways (s : List UInt8) : List (Nat × Nat) :=
  match s with
  | [] => []
  | c :: l => [(1, wh isBlank s), (if s.take 2 = [40, 42] then (match rem (s.drop 2) 1 with | some n => (2, n + 2) | none => (9, s.length)) else (0, 0)),
      (if isLow c then (nameK (s.takeWhile isBeh), wh isBeh s) else (0, 0)), (if wh isDig s = 0 then (5, 0) else number s), (if c = 34 then ((txt l).1, (txt l).2 + 1) else (0, 0)),
      (if twos.contains (s.take 2) then (8, 2) else (8, if isOne c then 1 else 0)), (9, chN s)]
def fids : List FuncId := [53, 54, 55, 56, 57, 58, 59]
theorem ways_ok {s : List UInt8} (hs : s.length ≤ 500000) {j : Nat} {f : FuncId} {p : Nat × Nat} (hf : fids[j]? = some f) (hp : (ways s)[j]? = some p) :
    (orc vE).bare f [.str s] = some (.tup [.int .u8 (p.1 : Int), .int .i64 (p.2 : Int)]) ∧ vE.full f = false ∧ vE.prim f = none := by
  cases s with
  | nil => simp [ways] at hp
  | cons c l =>
    match j, hf, hp with
    | 0, hf, hp => cases hf; cases hp; exact ⟨blank_ok (by omega), rfl, rfl⟩
    | 1, hf, hp =>
      cases hf; cases hp
      refine ⟨(remark_ok (by omega)).trans ?_, rfl, rfl⟩
      split
      · cases rem (List.drop 2 (c :: l)) 1 <;> rfl
      · rfl
    | 2, hf, hp =>
      cases hf; cases hp
      refine ⟨(name_ok (by omega)).trans ?_, rfl, rfl⟩
      split <;> rfl
    | 3, hf, hp =>
      cases hf; cases hp
      refine ⟨(number_ok hs).trans ?_, rfl, rfl⟩
      split <;> rfl
    | 4, hf, hp =>
      cases hf; cases hp
      refine ⟨(text_ok (by omega)).trans ?_, rfl, rfl⟩
      split <;> rfl
    | 5, hf, hp =>
      cases hf; cases hp
      refine ⟨sign_ok.trans ?_, rfl, rfl⟩
      split
      · rfl
      · cases isOne c <;> rfl
    | 6, hf, hp => cases hf; cases hp; exact ⟨bad_ok (by simp), rfl, rfl⟩
    | j + 7, hf, hp => simp [fids] at hf
def first : List (Nat × Nat) → Nat × Nat
  | [] => (9, 0)
  | p :: l => if 0 < p.2 then p else first l
theorem low_beh {c : UInt8} (h : isLow c = true) : isBeh c = true := by unfold isBeh; rw [h]; rfl
theorem first_cut {s : List UInt8} (h : s ≠ []) : first (ways s) = cut s := by
  cases s with
  | nil => exact absurd rfl h
  | cons c l =>
    unfold cut
    simp only [ways, first]
    cases hb : isBlank c with
    | true =>
      have : 0 < wh isBlank (c :: l) := by rw [wh_cons, if_pos hb]; omega
      simp only [if_pos this, if_true]
    | false =>
      have : ¬ 0 < wh isBlank (c :: l) := by rw [wh_cons, hb]; simp
      simp only [if_neg this, Bool.false_eq_true, if_false]
      by_cases hr : (c :: l).take 2 = [40, 42]
      · simp only [if_pos hr]
        cases rem (List.drop 2 (c :: l)) 1 with
        | some n => simp
        | none => simp
      · simp only [if_neg hr, show ¬ (0 : Nat) < 0 by omega, if_false]
        cases hl : isLow c with
        | true =>
          have : 0 < wh isBeh (c :: l) := by rw [wh_cons, if_pos (low_beh hl)]; omega
          simp only [if_pos this, if_true]
        | false =>
          simp only [Bool.false_eq_true, if_false, show ¬ (0 : Nat) < 0 by omega]
          cases hd : isDig c with
          | true =>
            have h1 : 0 < wh isDig (c :: l) := by rw [wh_cons, if_pos hd]; omega
            have h2 := (number_le (c :: l) h1).1
            have h3 : ¬ wh isDig (c :: l) = 0 := by omega
            simp only [if_neg h3, show 0 < (number (c :: l)).2 by omega, if_true]
          | false =>
            have h1 : wh isDig (c :: l) = 0 := by rw [wh_cons, hd]; simp
            simp only [if_pos h1, show ¬ (0 : Nat) < 0 by omega, if_false, Bool.false_eq_true]
            by_cases hq : c = 34
            · simp only [if_pos hq, show 0 < (txt l).2 + 1 by omega, if_true]
            · simp only [if_neg hq, show ¬ (0 : Nat) < 0 by omega, if_false]
              by_cases ht : twos.contains ((c :: l).take 2) = true
              · simp only [if_pos ht, show (0 : Nat) < 2 by omega, if_true]
              · simp only [if_neg ht]
                cases ho : isOne c with
                | true => simp
                | false =>
                  have hz : 0 < chN (c :: l) := by unfold chN; split <;> omega
                  simp only [Bool.false_eq_true, if_false, show ¬ (0 : Nat) < 0 by omega, hz, if_true]
                  rfl
theorem callF_fn {β : Type} {f g : FuncId} (hp : vE.prim f = none) (args : List AV) (st : St) (K : Kv β) : callF (orc vE) (Sx.prim (sx vE g)) (.fn (.func f) [] []) args st K = callS (orc vE) f args st K := by
  have hp : Sx.prim (sx vE g) f = none := hp
  simp only [callF, callP, hp, List.nil_append, List.append_nil]
  rfl
def tok (p : Nat × List UInt8) : AV := .agg [.int .u8 (p.1 : Int), .str p.2]
def fnsV : AV := AV.sl 1 [AV.fn (Fn.func 53) [] [], AV.fn (Fn.func 54) [] [], AV.fn (Fn.func 55) [] [], AV.fn (Fn.func 56) [] [], AV.fn (Fn.func 57) [] [], AV.fn (Fn.func 58) [] [], AV.fn (Fn.func 59) [] []] Perm.shut
theorem fns_idx {β : Type} {j : Nat} {f : FuncId} (hf : fids[j]? = some f) (st : St) (K : AV → List Nat → Option β) : idxA 1 fnsV (j : Int) st K = K (.ip [.fn (.func f) [] []]) [] := by
  match j, hf with
  | 0, hf => cases hf; rfl
  | 1, hf => cases hf; rfl
  | 2, hf => cases hf; rfl
  | 3, hf => cases hf; rfl
  | 4, hf => cases hf; rfl
  | 5, hf => cases hf; rfl
  | 6, hf => cases hf; rfl
  | j + 7, hf => simp [fids] at hf
theorem cut_loop {s : List UInt8} (hs : s.length ≤ 500000) {st : St} {v : AV} {es : List AV} (ho : Own st 2 23 v es) (he : es.length ≤ 500000) : ∀ (l : List (Nat × Nat)) (j : Nat), (ways s).drop j = l → l.length + j = 7 → 0 < (first l).2 → (first l).2 ≤ s.length →
    ∃ v' st', loopO g34_L1 ([v, .str s, .int .i64 (j : Int)], st) = some (0, [v', .str (s.drop (first l).2)], st') ∧ Own st' 2 23 v' (es ++ [tok ((first l).1, s.take (first l).2)])
  | [], j, hd, hj, h0, _ => by simp [first] at h0
  | p :: l, j, hd, hj, h0, hle => by
    obtain ⟨hg, hr, hlt⟩ := drop_cons (α := Nat × Nat) hd
    have hj7 : j < 7 := by simp at hj; omega
    obtain ⟨f, hf⟩ : ∃ f, fids[j]? = some f := ⟨fids[j], List.getElem?_eq_getElem hj7⟩
    obtain ⟨hb, hfull, hprim⟩ := ways_ok hs hf hg
    have hc : ∀ {β : Type} (st : St) (K : Kv β), callS (orc vE) f [.str s] st K = K (.tup [.int .u8 (p.1 : Int), .int .i64 (p.2 : Int)]) st q0 := fun st K => callS_bare st K hfull rfl rfl hb
    have hidx := fun {β : Type} (st : St) (K : AV → List Nat → Option β) => fns_idx hf st K
    unfold fnsV at hidx
    have q : (j : Int) < 7 := by omega
    by_cases hp : 0 < p.2
    · have hp' : (p.2 : Int) > 0 := by omega
      have hfi : first (p :: l) = p := by simp only [first, if_pos hp]
      rw [hfi] at hle ⊢
      obtain ⟨v', st', o', k', x', a'⟩ := own_app (b := 24) (tok (p.1, s.take p.2)) ho (room_of (by omega) (by omega) (by omega))
      refine ⟨v', st', loopO_inr ?_, o'⟩
      have a' : ∀ {β : Type} (K : Kv β), appS 2 24 23 v [.agg [.int .u8 (p.1 : Int), .str (s.take p.2)]] st K = K v' st' x' := fun K => a' K
      simp only [g34_L1, unc_cons, asS_str, asI_int, un0_nil, ifB_decide, if_pos q, hidx, loadS_ip, takeO_one, bindO_ok, callF_fn hprim, hc, unT_tup, nthS_zero, nthS_one, if_pos hp', uptoS_nat hle, List.drop_zero, letV_eq, a', List.take_length]
    · have hp' : ¬ (p.2 : Int) > 0 := by omega
      have hfi : first (p :: l) = first l := by simp only [first, if_neg hp]
      rw [hfi] at h0 hle ⊢
      obtain ⟨v', st', e', o'⟩ := cut_loop hs ho he l (j + 1) hr (by simp at hj; omega) h0 hle
      refine ⟨v', st', ?_, o'⟩
      rw [loopO_inl (s' := ([v, .str s, .int .i64 ((j + 1 : Nat) : Int)], st)), e']
      simp only [g34_L1, unc_cons, asS_str, asI_int, un0_nil, ifB_decide, if_pos q, hidx, loadS_ip, takeO_one, bindO_ok, callF_fn hprim, hc, unT_tup, nthS_zero, nthS_one, if_neg hp', letV_eq, wrapA1 (show j + 1 ≤ 9223372036854775807 by omega)]
theorem toks_loop : ∀ (n : Nat) (s : List UInt8) (st : St) (v : AV) (es : List AV), s.length ≤ n → n ≤ 500000 → Own st 2 23 v es → es.length + n ≤ 500000 →
    ∃ v' st', loopO g34_L2 ([v, .str s], st) = some (0, [v'], st') ∧ Own st' 2 23 v' (es ++ (tokens s).map tok)
  | n, [], st, v, es, _, _, ho, _ => by
    refine ⟨v, st, loopO_inr ?_, by simpa [tokens_nil] using ho⟩
    simp only [g34_L2, unc_cons, asS_str, un0_nil, show (!(([] : List UInt8) == [])) = false from rfl, ifB_false]
  | 0, c :: l, _, _, _, h, _, _, _ => by simp at h
  | n + 1, c :: l, st, v, es, h, hn, ho, he => by
    have hc := cut_le (s := c :: l) (by simp)
    have hfc := first_cut (s := c :: l) (by simp)
    obtain ⟨v1, st1, e1, o1⟩ := cut_loop (s := c :: l) (by omega) ho (by omega) (ways (c :: l)) 0 rfl rfl (by rw [hfc]; omega) (by rw [hfc]; omega)
    rw [hfc] at e1 o1
    have hd : ((c :: l).drop (cut (c :: l)).2).length ≤ n := by rw [List.length_drop]; omega
    obtain ⟨v2, st2, e2, o2⟩ := toks_loop n ((c :: l).drop (cut (c :: l)).2) st1 v1 _ hd (by omega) o1 (by rw [List.length_append]; simp; omega)
    refine ⟨v2, st2, ?_, ?_⟩
    · have e1 : loopO g34_L1 ([v, .str (c :: l), .int .i64 0], st) = _ := e1
      rw [loopO_inl (s' := ([v1, .str ((c :: l).drop (cut (c :: l)).2)], st1)), e2]
      simp only [g34_L2, unc_cons, asS_str, un0_nil, show (!((c :: l : List UInt8) == [])) = true from rfl, ifB_true, e1, bindO_ok]
    · rw [tokens_cons (by simp), List.map_cons]
      rw [List.append_assoc] at o2
      exact o2
theorem valid_ok {s : List UInt8} (hs : s.length ≤ 1000000) : (orc vE).bare 52 [.str s] = some (.bool (validS s)) := by
  refine bare_of rfl ((g52_eq _).trans ?_)
  simp only [g52, asS_str, planS_lib (libValid_ok (show s.length ≤ 9223372036854775807 by omega)), asB_bool]
theorem call_valid {β : Type} {s : List UInt8} (hs : s.length ≤ 1000000) (st : St) (K : Kv β) : callS (orc vE) 52 [.str s] st K = K (.bool (validS s)) st q0 := callS_bare st K rfl rfl rfl (valid_ok hs)
theorem tokens_large {s : List UInt8} (h : 65536 < s.length) : (orc vE).bare 34 [.str s] = some (.tup [.nils, .int .i64 40]) := by
  refine bare_of rfl ((g34_eq _).trans ?_)
  have q : (s.length : Int) > 65536 := by omega
  simp only [g34, asS_str, ifB_decide, if_pos q]
theorem tokens_form {s : List UInt8} (h : s.length ≤ 65536) (hv : validS s = false) : (orc vE).bare 34 [.str s] = some (.tup [.nils, .int .i64 4]) := by
  refine bare_of rfl ((g34_eq _).trans ?_)
  have q : ¬ (s.length : Int) > 65536 := by omega
  simp only [g34, asS_str, ifB_decide, if_neg q, call_valid (show s.length ≤ 1000000 by omega), hv, asB_bool, Bool.not_false, ifB_true]
theorem tokens_ok {s : List UInt8} (h : s.length ≤ 65536) (hv : validS s = true) : ∃ x, (orc vE).bare 34 [.str s] = some (.tup [x, .int .i64 0]) ∧ IsSl 2 x ((tokens s).map tok) := by
  have q : ¬ (s.length : Int) > 65536 := by omega
  obtain ⟨v', st', e, o⟩ := toks_loop s.length s (St.mk 0 0 Tr.leaf) .nils [] (Nat.le_refl _) (by omega) (Own.nils (Nat.le_refl _) _ _) (by simp; omega)
  rw [List.nil_append] at o
  obtain ⟨x, hx, hf⟩ := frz_own2 o (fz_int .i64 0) rfl
  refine ⟨x, bare_of rfl ((g34_eq _).trans ?_), hx⟩
  simp only [g34, asS_str, ifB_decide, if_neg q, call_valid (show s.length ≤ 1000000 by omega), hv, asB_bool, Bool.not_true, ifB_false, e, bindO_ok, unc_cons, un0_nil, hf]
end Go.Proofs.YtflnfagdpoddiaaGreatDoor.Vm
set_option maxRecDepth 100000
set_option linter.unusedSimpArgs false
namespace Go.Proofs.YtflnfagdpoddiaaGreatDoor.Vm
open Go Go.VM Go.Proofs Go.Lex

def bitsF (o : Int) : List UInt8 → Int
  | [] => o
  | b :: l => bitsF (o * 64 + b.toNat - 128) l
theorem bits_loop (l : List UInt8) (hl : l.length ≤ 4) (st : St) : ∀ (r : List UInt8) (i : Nat) (o : Int), l.drop i = r → i ≤ l.length → -(1000 * 100 ^ i : Nat) ≤ o → o ≤ (1000 * 100 ^ i : Nat) →
    loopO (g98_L1 l) ([.int .i64 o, .int .i64 (i : Int)], st) = some (0, [.int .i64 (bitsF o r)], st)
  | [], i, o, hd, hi, _, _ => by
    have := List.drop_eq_nil_iff.1 hd
    have q : ¬ (i : Int) < (l.length : Int) := by omega
    refine loopO_inr ?_
    simp only [g98_L1, unc_cons, asI_int, un0_nil, ifB_decide, if_neg q, bitsF]
  | b :: r, i, o, hd, hi, h1, h2 => by
    obtain ⟨hg, hr, hlt⟩ := drop_cons hd
    have q : (i : Int) < (l.length : Int) := by omega
    have hb : l[i] = b := getElem_of hlt hg
    have hb2 := UInt8.toNat_lt b
    have hp : (100 : Nat) ^ i ≤ 100 ^ 4 := Nat.pow_le_pow_right (by omega) (by omega)
    have hp1 : 1 ≤ (100 : Nat) ^ i := Nat.one_le_pow _ _ (by omega)
    have hp2 : (100 : Nat) ^ (i + 1) = 100 * 100 ^ i := by rw [Nat.pow_succ, Nat.mul_comm]
    have hp3 : (100 : Nat) ^ 4 = 100000000 := by decide
    have w1 : IntKind.wrap .i64 (o * 64) = o * 64 := wrap_i64 (by omega) (by omega)
    have w2 : IntKind.wrap .i64 (b.toNat : Int) = (b.toNat : Int) := wrap_i64 (by omega) (by omega)
    have w3 : IntKind.wrap .i64 (o * 64 + (b.toNat : Int)) = o * 64 + (b.toNat : Int) := wrap_i64 (by omega) (by omega)
    have w4 : IntKind.wrap .i64 (o * 64 + (b.toNat : Int) - 128) = o * 64 + (b.toNat : Int) - 128 := wrap_i64 (by omega) (by omega)
    have ih := bits_loop l hl st r (i + 1) (o * 64 + (b.toNat : Int) - 128) hr (by omega) (by omega) (by omega)
    rw [loopO_inl (s' := ([.int .i64 (o * 64 + (b.toNat : Int) - 128), .int .i64 ((i + 1 : Nat) : Int)], st)), ih]
    · rfl
    · simp only [g98_L1, unc_cons, asI_int, un0_nil, ifB_decide, if_pos q, letV_eq, w1, idxStr_nat hlt, hb, w2, w3, w4, wrapA1 (show i + 1 ≤ 9223372036854775807 by omega)]
def headOf : Nat → Int
  | 2 => 192
  | 3 => 224
  | 4 => 240
  | _ => 0
def bitsI : List UInt8 → Int
  | [] => 0
  | [b] => b.toNat
  | b :: l => bitsF ((b.toNat : Int) - headOf (l.length + 1)) l
theorem heads_idx {β : Type} {n : Nat} (h : 2 ≤ n) (h4 : n ≤ 4) (st : St) (K : AV → List Nat → Option β) : idxA 1 (AV.sl 1 [AV.int .i64 0, AV.int .i64 0, AV.int .i64 192, AV.int .i64 224, AV.int .i64 240] Perm.shut) (n : Int) st K = K (.ip [.int .i64 (headOf n)]) [] := by
  match n, h, h4 with
  | 2, _, _ => rfl
  | 3, _, _ => rfl
  | 4, _, _ => rfl
theorem bits_ok {l : List UInt8} (h : l ≠ []) (h4 : l.length ≤ 4) : (orc vE).bare 98 [.str l] = some (.int .i64 (bitsI l)) := by
  refine bare_of rfl ((g98_eq _).trans ?_)
  cases l with
  | nil => exact absurd rfl h
  | cons b r =>
    have hb2 := UInt8.toNat_lt b
    have i0 : ∀ {β : Type} (K : UInt8 → Option β), idxStr (b :: r) 0 K = K b := fun K => idxStr_nat (k := 0) (by simp) K
    have w2 : IntKind.wrap .i64 (b.toNat : Int) = (b.toNat : Int) := wrap_i64 (by omega) (by omega)
    cases r with
    | nil =>
      have q : (([b] : List UInt8).length : Int) = 1 := rfl
      simp only [g98, asS_str, ifB_beq, if_pos q, i0, letV_eq, w2, bitsI]
    | cons c r =>
      have q : ¬ (((b :: c :: r).length : Nat) : Int) = 1 := by simp; omega
      have hh : headOf ((b :: c :: r).length) ≤ 240 ∧ 0 ≤ headOf ((b :: c :: r).length) := by
        unfold headOf; split <;> omega
      have w3 : IntKind.wrap .i64 ((b.toNat : Int) - headOf ((b :: c :: r).length)) = (b.toNat : Int) - headOf ((b :: c :: r).length) := wrap_i64 (by omega) (by omega)
      have hl := bits_loop (b :: c :: r) h4 (St.mk 0 0 Tr.leaf) (c :: r) 1 ((b.toNat : Int) - headOf ((b :: c :: r).length)) rfl (by simp) (by omega) (by omega)
      have hl : loopO (g98_L1 (b :: c :: r)) ([.int .i64 ((b.toNat : Int) - headOf ((b :: c :: r).length)), .int .i64 1], St.mk 0 0 Tr.leaf) = _ := hl
      simp only [g98, asS_str, ifB_beq, if_neg q, i0, letV_eq, w2, heads_idx (show 2 ≤ (b :: c :: r).length by simp) h4, loadS_ip, takeO_one, bindO_ok, asI_int, w3]
      rw [hl]
      simp only [bindO_ok, unc_cons, asI_int, un0_nil, bitsI, List.length_cons]
def putN (k : Nat) : List UInt8 :=
  if 1114111 < k ∨ (55296 ≤ k ∧ k ≤ 57343) then []
  else if k < 128 then [UInt8.ofNat k]
  else if k < 2048 then [UInt8.ofNat (192 + k / 64), UInt8.ofNat (128 + k % 64)]
  else if k < 65536 then [UInt8.ofNat (224 + k / 4096), UInt8.ofNat (128 + k / 64 % 64), UInt8.ofNat (128 + k % 64)]
  else [UInt8.ofNat (240 + k / 262144), UInt8.ofNat (128 + k / 4096 % 64), UInt8.ofNat (128 + k / 64 % 64), UInt8.ofNat (128 + k % 64)]
theorem wrap8 {n : Nat} (h : n ≤ 255) : IntKind.wrap .u8 (n : Int) = (n : Int) := by
  show (if (false && decide ((n : Int) % (2 ^ 8 : Int) ≥ (2 ^ 7 : Int))) = true then (n : Int) % (2 ^ 8 : Int) - (2 ^ 8 : Int) else (n : Int) % (2 ^ 8 : Int)) = _
  simp only [Bool.false_and, Bool.false_eq_true, if_false]
  omega
theorem put_ok' (k : Nat) (hk : k ≤ 9223372036854775807) : (orc vE).bare 99 [.int .i64 (k : Int)] = some (.str (putN k)) := by
  refine bare_of rfl ((g99_eq _).trans ?_)
  have q0 : ¬ ((k : Int) < 0) := by omega
  simp only [g99, asI_int, ifB_decide, if_neg q0]
  unfold putN
  by_cases c1 : (k : Int) > 1114111
  · simp only [if_pos c1, bindO_ok, unc_cons, asB_bool, un0_nil, ifB_true, if_pos (show 1114111 < k ∨ (55296 ≤ k ∧ k ≤ 57343) by omega)]
  rw [if_neg c1]
  by_cases c2 : (k : Int) ≥ 55296 ∧ (k : Int) ≤ 57343
  · simp only [if_pos c2.1, decide_eq_true c2.2, bindO_ok, unc_cons, asB_bool, un0_nil, ifB_true, if_pos (show 1114111 < k ∨ (55296 ≤ k ∧ k ≤ 57343) by omega)]
  have e0 : ∀ {β : Type} (K : Car → Option β), bindO (if (k : Int) ≥ 55296 then some (([AV.bool (decide ((k : Int) ≤ 57343))], St.mk 0 0 Tr.leaf) : Car) else some ([AV.bool false], St.mk 0 0 Tr.leaf)) K = K ([AV.bool false], St.mk 0 0 Tr.leaf) := by
    intro β K
    by_cases h : (k : Int) ≥ 55296
    · have : ¬ (k : Int) ≤ 57343 := fun h2 => c2 ⟨h, h2⟩
      rw [if_pos h, decide_eq_false this]; rfl
    · rw [if_neg h]; rfl
  rw [e0]
  rw [if_neg (show ¬ (1114111 < k ∨ (55296 ≤ k ∧ k ≤ 57343)) by omega)]
  simp only [unc_cons, asB_bool, un0_nil, ifB_false, ifB_decide]
  by_cases c3 : k < 128
  · rw [if_pos (show (k : Int) < 128 by omega), if_pos c3]
    simp only [letV_eq, wrap8 (show k ≤ 255 by omega), Int.toNat_natCast]
  rw [if_neg (show ¬ (k : Int) < 128 by omega), if_neg c3]
  have t64 : Int.tdiv (k : Int) 64 = ((k / 64 : Nat) : Int) := rfl
  have t4096 : Int.tdiv (k : Int) 4096 = ((k / 4096 : Nat) : Int) := rfl
  have t262144 : Int.tdiv (k : Int) 262144 = ((k / 262144 : Nat) : Int) := rfl
  have m64 : ∀ n : Nat, Int.tmod (n : Int) 64 = ((n % 64 : Nat) : Int) := fun n => rfl
  have wc : ∀ c n : Nat, c + n ≤ 9223372036854775807 → IntKind.wrap .i64 ((c : Int) + (n : Int)) = ((c + n : Nat) : Int) := fun c n h => wrapA h
  have a1 : ∀ n : Nat, n ≤ 1000 → IntKind.wrap .i64 (128 + (n : Int)) = ((128 + n : Nat) : Int) := fun n h => wc 128 n (by omega)
  have a2 : ∀ n : Nat, n ≤ 1000 → IntKind.wrap .i64 (192 + (n : Int)) = ((192 + n : Nat) : Int) := fun n h => wc 192 n (by omega)
  have a3 : ∀ n : Nat, n ≤ 1000 → IntKind.wrap .i64 (224 + (n : Int)) = ((224 + n : Nat) : Int) := fun n h => wc 224 n (by omega)
  have a4 : ∀ n : Nat, n ≤ 1000 → IntKind.wrap .i64 (240 + (n : Int)) = ((240 + n : Nat) : Int) := fun n h => wc 240 n (by omega)
  by_cases c4 : k < 2048
  · rw [if_pos (show (k : Int) < 2048 by omega), if_pos c4]
    simp only [letV_eq, t64, m64, wrapN (show k / 64 ≤ 9223372036854775807 by omega), a1 (k % 64) (by omega), a2 (k / 64) (by omega), wrap8 (show 192 + k / 64 ≤ 255 by omega), wrap8 (show 128 + k % 64 ≤ 255 by omega), Int.toNat_natCast]
  rw [if_neg (show ¬ (k : Int) < 2048 by omega), if_neg c4]
  by_cases c5 : k < 65536
  · rw [if_pos (show (k : Int) < 65536 by omega), if_pos c5]
    simp only [letV_eq, t64, t4096, m64, wrapN (show k / 64 ≤ 9223372036854775807 by omega), wrapN (show k / 4096 ≤ 9223372036854775807 by omega), a1 (k % 64) (by omega), a1 (k / 64 % 64) (by omega), a3 (k / 4096) (by omega), wrap8 (show 224 + k / 4096 ≤ 255 by omega), wrap8 (show 128 + k / 64 % 64 ≤ 255 by omega), wrap8 (show 128 + k % 64 ≤ 255 by omega), Int.toNat_natCast]
  rw [if_neg (show ¬ (k : Int) < 65536 by omega), if_neg c5]
  simp only [letV_eq, t64, t4096, t262144, m64, wrapN (show k / 64 ≤ 9223372036854775807 by omega), wrapN (show k / 4096 ≤ 9223372036854775807 by omega), wrapN (show k / 262144 ≤ 9223372036854775807 by omega), a1 (k % 64) (by omega), a1 (k / 64 % 64) (by omega), a1 (k / 4096 % 64) (by omega), a4 (k / 262144) (by omega), wrap8 (show 240 + k / 262144 ≤ 255 by omega), wrap8 (show 128 + k / 4096 % 64 ≤ 255 by omega), wrap8 (show 128 + k / 64 % 64 ≤ 255 by omega), wrap8 (show 128 + k % 64 ≤ 255 by omega), Int.toNat_natCast]
theorem of_eq {n : Nat} {a : UInt8} (h : n ≤ 255) : UInt8.ofNat n = a ↔ n = a.toNat := by
  constructor
  · intro e; rw [← e, UInt8.toNat_ofNat']; omega
  · intro e; apply UInt8.toNat_inj.1; rw [UInt8.toNat_ofNat']; have := UInt8.toNat_lt a; omega
theorem put1 (a : UInt8) : putN a.toNat = [a] ↔ a.toNat < 128 := by
  have ha := UInt8.toNat_lt a
  unfold putN
  rw [if_neg (by omega)]
  by_cases h : a.toNat < 128
  · rw [if_pos h]; simp [h]
  · rw [if_neg h, if_pos (by omega)]; simp [h]
theorem put2 {k : Nat} {a b : UInt8} (hk : (k : Int) = ((a.toNat : Int) - 192) * 64 + b.toNat - 128) : putN k = [a, b] ↔ (194 ≤ a.toNat ∧ a.toNat ≤ 223) ∧ ¬ (b.toNat < 128 ∨ 191 < b.toNat) := by
  have ha := UInt8.toNat_lt a
  have hb := UInt8.toNat_lt b
  unfold putN
  by_cases c1 : 1114111 < k ∨ (55296 ≤ k ∧ k ≤ 57343)
  · rw [if_pos c1]; simp; omega
  rw [if_neg c1]
  by_cases c2 : k < 128
  · rw [if_pos c2]; simp; omega
  rw [if_neg c2]
  by_cases c3 : k < 2048
  · rw [if_pos c3]
    simp only [List.cons.injEq, and_true, of_eq (show 192 + k / 64 ≤ 255 by omega), of_eq (show 128 + k % 64 ≤ 255 by omega)]
    omega
  rw [if_neg c3]
  by_cases c4 : k < 65536
  · rw [if_pos c4]; simp; omega
  · rw [if_neg c4]; simp; omega
theorem put3 {k : Nat} {a b c : UInt8} (hk : (k : Int) = (((a.toNat : Int) - 224) * 64 + b.toNat - 128) * 64 + c.toNat - 128) :
    putN k = [a, b, c] ↔ (224 ≤ a.toNat ∧ a.toNat ≤ 239) ∧ ¬ (b.toNat < 128 ∨ 191 < b.toNat ∨ c.toNat < 128 ∨ 191 < c.toNat ∨ (a.toNat = 224 ∧ b.toNat < 160) ∨ (a.toNat = 237 ∧ 159 < b.toNat)) := by
  have ha := UInt8.toNat_lt a
  have hb := UInt8.toNat_lt b
  have hc := UInt8.toNat_lt c
  unfold putN
  by_cases c1 : 1114111 < k ∨ (55296 ≤ k ∧ k ≤ 57343)
  · rw [if_pos c1]; simp; omega
  rw [if_neg c1]
  by_cases c2 : k < 128
  · rw [if_pos c2]; simp; omega
  rw [if_neg c2]
  by_cases c3 : k < 2048
  · rw [if_pos c3]; simp; omega
  rw [if_neg c3]
  by_cases c4 : k < 65536
  · rw [if_pos c4]
    simp only [List.cons.injEq, and_true, of_eq (show 224 + k / 4096 ≤ 255 by omega), of_eq (show 128 + k / 64 % 64 ≤ 255 by omega), of_eq (show 128 + k % 64 ≤ 255 by omega)]
    omega
  · rw [if_neg c4]; simp; omega
theorem put4 {k : Nat} {a b c d : UInt8} (hk : (k : Int) = ((((a.toNat : Int) - 240) * 64 + b.toNat - 128) * 64 + c.toNat - 128) * 64 + d.toNat - 128) :
    putN k = [a, b, c, d] ↔ (240 ≤ a.toNat ∧ a.toNat ≤ 244) ∧ ¬ (b.toNat < 128 ∨ 191 < b.toNat ∨ c.toNat < 128 ∨ 191 < c.toNat ∨ d.toNat < 128 ∨ 191 < d.toNat ∨ (a.toNat = 240 ∧ b.toNat < 144) ∨ (a.toNat = 244 ∧ 143 < b.toNat)) := by
  have ha := UInt8.toNat_lt a
  have hb := UInt8.toNat_lt b
  have hc := UInt8.toNat_lt c
  have hd := UInt8.toNat_lt d
  unfold putN
  by_cases c1 : 1114111 < k ∨ (55296 ≤ k ∧ k ≤ 57343)
  · rw [if_pos c1]; simp; omega
  rw [if_neg c1]
  by_cases c2 : k < 128
  · rw [if_pos c2]; simp; omega
  rw [if_neg c2]
  by_cases c3 : k < 2048
  · rw [if_pos c3]; simp; omega
  rw [if_neg c3]
  by_cases c4 : k < 65536
  · rw [if_pos c4]; simp; omega
  · rw [if_neg c4]
    simp only [List.cons.injEq, and_true, of_eq (show 240 + k / 262144 ≤ 255 by omega), of_eq (show 128 + k / 4096 % 64 ≤ 255 by omega), of_eq (show 128 + k / 64 % 64 ≤ 255 by omega), of_eq (show 128 + k % 64 ≤ 255 by omega)]
    omega
end Go.Proofs.YtflnfagdpoddiaaGreatDoor.Vm
