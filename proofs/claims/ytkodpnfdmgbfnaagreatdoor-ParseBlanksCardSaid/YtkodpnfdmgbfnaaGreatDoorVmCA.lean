/-
  (A part of the proof: Env, F, LexA, LexB, LexC.)
-/
import Derived.Test.YtkodpnfdmgbfnaaGreatDoorVmBC
import Derived.Test.YtkodpnfdmgbfnaaGreatDoorVmBJ
import Derived.Test.YtkodpnfdmgbfnaaGreatDoorVmBG
import Derived.Test.YtkodpnfdmgbfnaaGreatDoorVmBE
import Derived.Test.YtkodpnfdmgbfnaaGreatDoorVmAJ
import Derived.Test.YtkodpnfdmgbfnaaGreatDoorVmBF
import Derived.Test.YtkodpnfdmgbfnaaGreatDoorRows
import Derived.KernelRfl
set_option maxRecDepth 1000000
set_option maxHeartbeats 0
namespace Go.Proofs.YtkodpnfdmgbfnaaGreatDoor.Vm
open Go Go.VM Go.Proofs
noncomputable def vT : TT := (.node none (.node (some ⟨.func, 1, 8, [.nilfn], false, false⟩) (.node (some ⟨(.int .i64), 1, 8, [(.int .i64 (0))], false, false⟩) (.node (some ⟨(.struct [(0, 2), (1, 3), (2, 4), (3, 6)]), 4, 24, [(.int .i64 (0)), (.int .i64 (0)), (.bool false), (.int .u8 (0))], true, true⟩) (.node (some ⟨(.ptr 181), 1, 8, [.nilp], false, false⟩) (.node (some ⟨.func, 1, 8, [.nilfn], false, false⟩) (.node (some ⟨(.ptr 65), 1, 8, [.nilp], false, false⟩) (.node (some ⟨.func, 1, 8, [.nilfn], false, false⟩) .leaf .leaf) (.node (some ⟨(.struct [(0, 12), (1, 12), (2, 131), (3, 185), (4, 5), (5, 5), (6, 186), (7, 187), (8, 158), (9, 188), (10, 189)]), 11, 48, [(.int .u64 (0)), (.int .u64 (0)), (.int .u32 (0)), (.int .u8 (0)), (.int .u8 (0)), (.int .u8 (0)), (.int .u8 (0)), .nilfn, .nilp, (.int .i32 (0)), (.int .i32 (0))], true, false⟩) .leaf .leaf)) (.node (some ⟨(.struct [(0, 5), (1, 5)]), 2, 2, [(.int .u8 (0)), (.int .u8 (0))], true, true⟩) (.node (some ⟨(.ptr 161), 1, 8, [.nilp], false, false⟩) .leaf .leaf) (.node none .leaf .leaf))) (.node none (.node none (.node (some ⟨.func, 1, 8, [.nilfn], false, false⟩) .leaf .leaf) (.node none .leaf .leaf)) (.node (some ⟨(.arr 256 4), 256, 256, [(.bool false), (.bool false), (.bool false), (.bool false), (.bool false), (.bool false), (.bool false), (.bool false), (.bool false), (.bool false), (.bool false), (.bool false), (.bool false), (.bool false), (.bool false), (.bool false), (.bool false), (.bool false), (.bool false), (.bool false), (.bool false), (.bool false), (.bool false), (.bool false), (.bool false), (.bool false), (.bool false), (.bool false), (.bool false), (.bool false), (.bool false), (.bool false), (.bool false), (.bool false), (.bool false), (.bool false), (.bool false), (.bool false), (.bool false), (.bool false), (.bool false), (.bool false), (.bool false), (.bool false), (.bool false), (.bool false), (.bool false), (.bool false), (.bool false), (.bool false), (.bool false), (.bool false), (.bool false), (.bool false), (.bool false), (.bool false), (.bool false), (.bool false), (.bool false), (.bool false), (.bool false), (.bool false), (.bool false), (.bool false), (.bool false), (.bool false), (.bool false), (.bool false), (.bool false), (.bool false), (.bool false), (.bool false), (.bool false), (.bool false), (.bool false), (.bool false), (.bool false), (.bool false), (.bool false), (.bool false), (.bool false), (.bool false), (.bool false), (.bool false), (.bool false), (.bool false), (.bool false), (.bool false), (.bool false), (.bool false), (.bool false), (.bool false), (.bool false), (.bool false), (.bool false), (.bool false), (.bool false), (.bool false), (.bool false), (.bool false), (.bool false), (.bool false), (.bool false), (.bool false), (.bool false), (.bool false), (.bool false), (.bool false), (.bool false), (.bool false), (.bool false), (.bool false), (.bool false), (.bool false), (.bool false), (.bool false), (.bool false), (.bool false), (.bool false), (.bool false), (.bool false), (.bool false), (.bool false), (.bool false), (.bool false), (.bool false), (.bool false), (.bool false), (.bool false), (.bool false), (.bool false), (.bool false), (.bool false), (.bool false), (.bool false), (.bool false), (.bool false), (.bool false), (.bool false), (.bool false), (.bool false), (.bool false), (.bool false), (.bool false), (.bool false), (.bool false), (.bool false), (.bool false), (.bool false), (.bool false), (.bool false), (.bool false), (.bool false), (.bool false), (.bool false), (.bool false), (.bool false), (.bool false), (.bool false), (.bool false), (.bool false), (.bool false), (.bool false), (.bool false), (.bool false), (.bool false), (.bool false), (.bool false), (.bool false), (.bool false), (.bool false), (.bool false), (.bool false), (.bool false), (.bool false), (.bool false), (.bool false), (.bool false), (.bool false), (.bool false), (.bool false), (.bool false), (.bool false), (.bool false), (.bool false), (.bool false), (.bool false), (.bool false), (.bool false), (.bool false), (.bool false), (.bool false), (.bool false), (.bool false), (.bool false), (.bool false), (.bool false), (.bool false), (.bool false), (.bool false), (.bool false), (.bool false), (.bool false), (.bool false), (.bool false), (.bool false), (.bool false), (.bool false), (.bool false), (.bool false), (.bool false), (.bool false), (.bool false), (.bool false), (.bool false), (.bool false), (.bool false), (.bool false), (.bool false), (.bool false), (.bool false), (.bool false), (.bool false), (.bool false), (.bool false), (.bool false), (.bool false), (.bool false), (.bool false), (.bool false), (.bool false), (.bool false), (.bool false), (.bool false), (.bool false), (.bool false), (.bool false), (.bool false), (.bool false), (.bool false), (.bool false), (.bool false), (.bool false), (.bool false), (.bool false), (.bool false), (.bool false), (.bool false), (.bool false), (.bool false), (.bool false), (.bool false), (.bool false), (.bool false), (.bool false), (.bool false)], true, false⟩) (.node (some ⟨.func, 1, 8, [.nilfn], false, false⟩) .leaf .leaf) (.node none .leaf .leaf)))) (.node (some ⟨(.struct [(0, 5), (1, 9)]), 2, 24, [(.int .u8 (0)), (.str [])], true, true⟩) (.node (some ⟨.func, 1, 8, [.nilfn], false, false⟩) (.node (some ⟨(.map 9 5), 1, 8, [.nilm], false, false⟩) (.node (some ⟨.func, 1, 8, [.nilfn], false, false⟩) .leaf .leaf) (.node none .leaf .leaf)) (.node (some ⟨.func, 1, 8, [.nilfn], false, false⟩) (.node (some ⟨.func, 1, 8, [.nilfn], false, false⟩) .leaf .leaf) (.node none .leaf .leaf))) (.node (some ⟨.func, 1, 8, [.nilfn], false, false⟩) (.node (some ⟨.func, 1, 8, [.nilfn], false, false⟩) (.node (some ⟨(.struct [(0, 150), (1, 150), (2, 150)]), 3, 6, [(.int .u16 (0)), (.int .u16 (0)), (.int .u16 (0))], true, true⟩) .leaf .leaf) (.node none .leaf .leaf)) (.node none (.node (some ⟨(.struct [(0, 182)]), 0, 0, [], true, false⟩) .leaf .leaf) (.node none .leaf .leaf))))) (.node (some ⟨.str, 1, 16, [(.str [])], false, false⟩) (.node (some ⟨(.struct [(0, 17)]), 1, 8, [.nilp], true, false⟩) (.node (some ⟨.func, 1, 8, [.nilfn], false, false⟩) (.node (some ⟨.func, 1, 8, [.nilfn], false, false⟩) (.node (some ⟨(.int .u32), 1, 4, [(.int .u32 (0))], false, false⟩) .leaf .leaf) (.node none .leaf .leaf)) (.node (some ⟨.func, 1, 8, [.nilfn], false, false⟩) (.node (some ⟨(.ptr 152), 1, 8, [.nilp], false, false⟩) .leaf .leaf) (.node none .leaf .leaf))) (.node (some ⟨(.struct [(0, 46), (1, 3), (2, 3)]), 3, 40, [.nils, (.int .i64 (0)), (.int .i64 (0))], true, true⟩) (.node (some ⟨.func, 1, 8, [.nilfn], false, false⟩) (.node (some ⟨(.slice 155), 1, 24, [.nils], false, false⟩) .leaf .leaf) (.node none .leaf .leaf)) (.node (some ⟨(.ptr 111), 1, 8, [.nilp], false, false⟩) (.node (some ⟨.func, 1, 8, [.nilfn], false, false⟩) .leaf .leaf) (.node none .leaf .leaf)))) (.node (some ⟨(.struct [(0, 5), (1, 24), (3, 25)]), 4, 56, [(.int .u8 (0)), (.int .u8 (0)), (.str []), .nils], true, true⟩) (.node (some ⟨(.slice 5), 1, 24, [.nils], false, false⟩) (.node none (.node (some ⟨(.slice 142), 1, 24, [.nils], false, false⟩) .leaf .leaf) (.node none .leaf .leaf)) (.node (some ⟨.func, 1, 8, [.nilfn], false, false⟩) (.node (some ⟨.func, 1, 8, [.nilfn], false, false⟩) .leaf .leaf) (.node none .leaf .leaf))) (.node none (.node (some ⟨.func, 1, 8, [.nilfn], false, false⟩) (.node (some ⟨(.struct [(0, 131), (1, 131), (2, 131)]), 3, 12, [(.int .u32 (0)), (.int .u32 (0)), (.int .u32 (0))], true, true⟩) .leaf .leaf) (.node none .leaf .leaf)) (.node (some ⟨.func, 1, 8, [.nilfn], false, false⟩) (.node (some ⟨.func, 1, 8, [.nilfn], false, false⟩) .leaf .leaf) (.node none .leaf .leaf)))))) (.node (some ⟨(.int .u8), 1, 1, [(.int .u8 (0))], false, false⟩) (.node (some ⟨.str, 1, 16, [(.str [])], false, false⟩) (.node (some ⟨(.ptr 191), 1, 8, [.nilp], false, false⟩) (.node (some ⟨.func, 1, 8, [.nilfn], false, false⟩) (.node (some ⟨(.struct [(0, 46), (1, 3), (2, 3)]), 3, 40, [.nils, (.int .i64 (0)), (.int .i64 (0))], true, true⟩) (.node (some ⟨(.struct [(0, 3), (1, 3)]), 2, 16, [(.int .i64 (0)), (.int .i64 (0))], true, true⟩) .leaf .leaf) (.node none .leaf .leaf)) (.node (some ⟨(.int .u64), 1, 8, [(.int .u64 (0))], false, false⟩) (.node (some ⟨(.struct [(0, 9)]), 1, 16, [(.str [])], true, true⟩) .leaf .leaf) (.node none .leaf .leaf))) (.node (some ⟨(.ptr 51), 1, 8, [.nilp], false, false⟩) (.node (some ⟨.func, 1, 8, [.nilfn], false, false⟩) (.node (some ⟨.func, 1, 8, [.nilfn], false, false⟩) .leaf .leaf) (.node none .leaf .leaf)) (.node (some ⟨.func, 1, 8, [.nilfn], false, false⟩) (.node (some ⟨(.arr 32 5), 32, 32, [(.int .u8 (0)), (.int .u8 (0)), (.int .u8 (0)), (.int .u8 (0)), (.int .u8 (0)), (.int .u8 (0)), (.int .u8 (0)), (.int .u8 (0)), (.int .u8 (0)), (.int .u8 (0)), (.int .u8 (0)), (.int .u8 (0)), (.int .u8 (0)), (.int .u8 (0)), (.int .u8 (0)), (.int .u8 (0)), (.int .u8 (0)), (.int .u8 (0)), (.int .u8 (0)), (.int .u8 (0)), (.int .u8 (0)), (.int .u8 (0)), (.int .u8 (0)), (.int .u8 (0)), (.int .u8 (0)), (.int .u8 (0)), (.int .u8 (0)), (.int .u8 (0)), (.int .u8 (0)), (.int .u8 (0)), (.int .u8 (0)), (.int .u8 (0))], true, false⟩) .leaf .leaf) (.node none .leaf .leaf)))) (.node (some ⟨(.slice 27), 1, 24, [.nils], false, false⟩) (.node (some ⟨(.slice 40), 1, 24, [.nils], false, false⟩) (.node (some ⟨(.iface false), 1, 16, [.nili], false, false⟩) (.node (some ⟨(.struct [(0, 9), (1, 9), (2, 74)]), 3, 48, [(.str []), (.str []), .nili], true, false⟩) .leaf .leaf) (.node none .leaf .leaf)) (.node (some ⟨.func, 1, 8, [.nilfn], false, false⟩) (.node none .leaf .leaf) (.node none .leaf .leaf))) (.node (some ⟨.func, 1, 8, [.nilfn], false, false⟩) (.node none (.node (some ⟨.func, 1, 8, [.nilfn], false, false⟩) .leaf .leaf) (.node none .leaf .leaf)) (.node (some ⟨(.ptr 137), 1, 8, [.nilp], false, false⟩) (.node (some ⟨(.int .u8), 1, 1, [(.int .u8 (0))], false, false⟩) .leaf .leaf) (.node none .leaf .leaf))))) (.node (some ⟨(.struct [(0, 9), (1, 12)]), 2, 24, [(.str []), (.int .u64 (0))], true, false⟩) (.node (some ⟨(.int .i32), 1, 4, [(.int .i32 (0))], false, false⟩) (.node (some ⟨.func, 1, 8, [.nilfn], false, false⟩) (.node (some ⟨.func, 1, 8, [.nilfn], false, false⟩) (.node (some ⟨(.ptr 149), 1, 8, [.nilp], false, false⟩) .leaf .leaf) (.node none .leaf .leaf)) (.node (some ⟨.func, 1, 8, [.nilfn], false, false⟩) (.node (some ⟨.func, 1, 8, [.nilfn], false, false⟩) .leaf .leaf) (.node none .leaf .leaf))) (.node (some ⟨.func, 1, 8, [.nilfn], false, false⟩) (.node (some ⟨.func, 1, 8, [.nilfn], false, false⟩) (.node (some ⟨(.struct [(0, 146), (1, 147), (2, 3)]), 3, 56, [.nils, .nils, (.int .i64 (0))], true, true⟩) .leaf .leaf) (.node none .leaf .leaf)) (.node (some ⟨.func, 1, 8, [.nilfn], false, false⟩) (.node (some ⟨(.struct [(0, 17), (1, 17), (2, 17), (3, 9)]), 4, 40, [.nilp, .nilp, .nilp, (.str [])], true, false⟩) .leaf .leaf) (.node none .leaf .leaf)))) (.node none (.node (some ⟨.func, 1, 8, [.nilfn], false, false⟩) (.node (some ⟨.func, 1, 8, [.nilfn], false, false⟩) (.node (some ⟨(.struct [(0, 32), (1, 4)]), 2, 32, [.nils, (.bool false)], true, true⟩) .leaf .leaf) (.node none .leaf .leaf)) (.node (some ⟨.func, 1, 8, [.nilfn], false, false⟩) (.node (some ⟨(.arr 65 5), 65, 65, [(.int .u8 (0)), (.int .u8 (0)), (.int .u8 (0)), (.int .u8 (0)), (.int .u8 (0)), (.int .u8 (0)), (.int .u8 (0)), (.int .u8 (0)), (.int .u8 (0)), (.int .u8 (0)), (.int .u8 (0)), (.int .u8 (0)), (.int .u8 (0)), (.int .u8 (0)), (.int .u8 (0)), (.int .u8 (0)), (.int .u8 (0)), (.int .u8 (0)), (.int .u8 (0)), (.int .u8 (0)), (.int .u8 (0)), (.int .u8 (0)), (.int .u8 (0)), (.int .u8 (0)), (.int .u8 (0)), (.int .u8 (0)), (.int .u8 (0)), (.int .u8 (0)), (.int .u8 (0)), (.int .u8 (0)), (.int .u8 (0)), (.int .u8 (0)), (.int .u8 (0)), (.int .u8 (0)), (.int .u8 (0)), (.int .u8 (0)), (.int .u8 (0)), (.int .u8 (0)), (.int .u8 (0)), (.int .u8 (0)), (.int .u8 (0)), (.int .u8 (0)), (.int .u8 (0)), (.int .u8 (0)), (.int .u8 (0)), (.int .u8 (0)), (.int .u8 (0)), (.int .u8 (0)), (.int .u8 (0)), (.int .u8 (0)), (.int .u8 (0)), (.int .u8 (0)), (.int .u8 (0)), (.int .u8 (0)), (.int .u8 (0)), (.int .u8 (0)), (.int .u8 (0)), (.int .u8 (0)), (.int .u8 (0)), (.int .u8 (0)), (.int .u8 (0)), (.int .u8 (0)), (.int .u8 (0)), (.int .u8 (0)), (.int .u8 (0))], true, false⟩) .leaf .leaf) (.node none .leaf .leaf))) (.node (some ⟨.func, 1, 8, [.nilfn], false, false⟩) (.node (some ⟨(.arr 256 5), 256, 256, [(.int .u8 (0)), (.int .u8 (0)), (.int .u8 (0)), (.int .u8 (0)), (.int .u8 (0)), (.int .u8 (0)), (.int .u8 (0)), (.int .u8 (0)), (.int .u8 (0)), (.int .u8 (0)), (.int .u8 (0)), (.int .u8 (0)), (.int .u8 (0)), (.int .u8 (0)), (.int .u8 (0)), (.int .u8 (0)), (.int .u8 (0)), (.int .u8 (0)), (.int .u8 (0)), (.int .u8 (0)), (.int .u8 (0)), (.int .u8 (0)), (.int .u8 (0)), (.int .u8 (0)), (.int .u8 (0)), (.int .u8 (0)), (.int .u8 (0)), (.int .u8 (0)), (.int .u8 (0)), (.int .u8 (0)), (.int .u8 (0)), (.int .u8 (0)), (.int .u8 (0)), (.int .u8 (0)), (.int .u8 (0)), (.int .u8 (0)), (.int .u8 (0)), (.int .u8 (0)), (.int .u8 (0)), (.int .u8 (0)), (.int .u8 (0)), (.int .u8 (0)), (.int .u8 (0)), (.int .u8 (0)), (.int .u8 (0)), (.int .u8 (0)), (.int .u8 (0)), (.int .u8 (0)), (.int .u8 (0)), (.int .u8 (0)), (.int .u8 (0)), (.int .u8 (0)), (.int .u8 (0)), (.int .u8 (0)), (.int .u8 (0)), (.int .u8 (0)), (.int .u8 (0)), (.int .u8 (0)), (.int .u8 (0)), (.int .u8 (0)), (.int .u8 (0)), (.int .u8 (0)), (.int .u8 (0)), (.int .u8 (0)), (.int .u8 (0)), (.int .u8 (0)), (.int .u8 (0)), (.int .u8 (0)), (.int .u8 (0)), (.int .u8 (0)), (.int .u8 (0)), (.int .u8 (0)), (.int .u8 (0)), (.int .u8 (0)), (.int .u8 (0)), (.int .u8 (0)), (.int .u8 (0)), (.int .u8 (0)), (.int .u8 (0)), (.int .u8 (0)), (.int .u8 (0)), (.int .u8 (0)), (.int .u8 (0)), (.int .u8 (0)), (.int .u8 (0)), (.int .u8 (0)), (.int .u8 (0)), (.int .u8 (0)), (.int .u8 (0)), (.int .u8 (0)), (.int .u8 (0)), (.int .u8 (0)), (.int .u8 (0)), (.int .u8 (0)), (.int .u8 (0)), (.int .u8 (0)), (.int .u8 (0)), (.int .u8 (0)), (.int .u8 (0)), (.int .u8 (0)), (.int .u8 (0)), (.int .u8 (0)), (.int .u8 (0)), (.int .u8 (0)), (.int .u8 (0)), (.int .u8 (0)), (.int .u8 (0)), (.int .u8 (0)), (.int .u8 (0)), (.int .u8 (0)), (.int .u8 (0)), (.int .u8 (0)), (.int .u8 (0)), (.int .u8 (0)), (.int .u8 (0)), (.int .u8 (0)), (.int .u8 (0)), (.int .u8 (0)), (.int .u8 (0)), (.int .u8 (0)), (.int .u8 (0)), (.int .u8 (0)), (.int .u8 (0)), (.int .u8 (0)), (.int .u8 (0)), (.int .u8 (0)), (.int .u8 (0)), (.int .u8 (0)), (.int .u8 (0)), (.int .u8 (0)), (.int .u8 (0)), (.int .u8 (0)), (.int .u8 (0)), (.int .u8 (0)), (.int .u8 (0)), (.int .u8 (0)), (.int .u8 (0)), (.int .u8 (0)), (.int .u8 (0)), (.int .u8 (0)), (.int .u8 (0)), (.int .u8 (0)), (.int .u8 (0)), (.int .u8 (0)), (.int .u8 (0)), (.int .u8 (0)), (.int .u8 (0)), (.int .u8 (0)), (.int .u8 (0)), (.int .u8 (0)), (.int .u8 (0)), (.int .u8 (0)), (.int .u8 (0)), (.int .u8 (0)), (.int .u8 (0)), (.int .u8 (0)), (.int .u8 (0)), (.int .u8 (0)), (.int .u8 (0)), (.int .u8 (0)), (.int .u8 (0)), (.int .u8 (0)), (.int .u8 (0)), (.int .u8 (0)), (.int .u8 (0)), (.int .u8 (0)), (.int .u8 (0)), (.int .u8 (0)), (.int .u8 (0)), (.int .u8 (0)), (.int .u8 (0)), (.int .u8 (0)), (.int .u8 (0)), (.int .u8 (0)), (.int .u8 (0)), (.int .u8 (0)), (.int .u8 (0)), (.int .u8 (0)), (.int .u8 (0)), (.int .u8 (0)), (.int .u8 (0)), (.int .u8 (0)), (.int .u8 (0)), (.int .u8 (0)), (.int .u8 (0)), (.int .u8 (0)), (.int .u8 (0)), (.int .u8 (0)), (.int .u8 (0)), (.int .u8 (0)), (.int .u8 (0)), (.int .u8 (0)), (.int .u8 (0)), (.int .u8 (0)), (.int .u8 (0)), (.int .u8 (0)), (.int .u8 (0)), (.int .u8 (0)), (.int .u8 (0)), (.int .u8 (0)), (.int .u8 (0)), (.int .u8 (0)), (.int .u8 (0)), (.int .u8 (0)), (.int .u8 (0)), (.int .u8 (0)), (.int .u8 (0)), (.int .u8 (0)), (.int .u8 (0)), (.int .u8 (0)), (.int .u8 (0)), (.int .u8 (0)), (.int .u8 (0)), (.int .u8 (0)), (.int .u8 (0)), (.int .u8 (0)), (.int .u8 (0)), (.int .u8 (0)), (.int .u8 (0)), (.int .u8 (0)), (.int .u8 (0)), (.int .u8 (0)), (.int .u8 (0)), (.int .u8 (0)), (.int .u8 (0)), (.int .u8 (0)), (.int .u8 (0)), (.int .u8 (0)), (.int .u8 (0)), (.int .u8 (0)), (.int .u8 (0)), (.int .u8 (0)), (.int .u8 (0)), (.int .u8 (0)), (.int .u8 (0)), (.int .u8 (0)), (.int .u8 (0)), (.int .u8 (0)), (.int .u8 (0)), (.int .u8 (0)), (.int .u8 (0)), (.int .u8 (0)), (.int .u8 (0)), (.int .u8 (0)), (.int .u8 (0)), (.int .u8 (0)), (.int .u8 (0)), (.int .u8 (0)), (.int .u8 (0)), (.int .u8 (0)), (.int .u8 (0)), (.int .u8 (0)), (.int .u8 (0)), (.int .u8 (0)), (.int .u8 (0)), (.int .u8 (0))], true, false⟩) (.node (some ⟨.func, 1, 8, [.nilfn], false, false⟩) .leaf .leaf) (.node none .leaf .leaf)) (.node (some ⟨.func, 1, 8, [.nilfn], false, false⟩) (.node (some ⟨(.int .i32), 1, 4, [(.int .i32 (0))], false, false⟩) .leaf .leaf) (.node none .leaf .leaf))))))) (.node (some ⟨(.int .i64), 1, 8, [(.int .i64 (0))], false, false⟩) (.node (some ⟨.bool, 1, 1, [(.bool false)], false, false⟩) (.node (some ⟨(.struct [(0, 2), (1, 3), (2, 4), (3, 6)]), 4, 24, [(.int .i64 (0)), (.int .i64 (0)), (.bool false), (.int .u8 (0))], true, true⟩) (.node (some ⟨(.ptr 184), 1, 8, [.nilp], false, false⟩) (.node (some ⟨(.slice 9), 1, 24, [.nils], false, false⟩) (.node (some ⟨(.struct [(0, 46), (1, 3), (2, 3)]), 3, 40, [.nils, (.int .i64 (0)), (.int .i64 (0))], true, true⟩) (.node (some ⟨(.slice 130), 1, 24, [.nils], false, false⟩) .leaf .leaf) (.node (some ⟨.uptr, 1, 8, [.nilp], false, false⟩) .leaf .leaf)) (.node (some ⟨(.arr 16 95), 32, 32, [(.int .u8 (0)), (.int .u8 (0)), (.int .u8 (0)), (.int .u8 (0)), (.int .u8 (0)), (.int .u8 (0)), (.int .u8 (0)), (.int .u8 (0)), (.int .u8 (0)), (.int .u8 (0)), (.int .u8 (0)), (.int .u8 (0)), (.int .u8 (0)), (.int .u8 (0)), (.int .u8 (0)), (.int .u8 (0)), (.int .u8 (0)), (.int .u8 (0)), (.int .u8 (0)), (.int .u8 (0)), (.int .u8 (0)), (.int .u8 (0)), (.int .u8 (0)), (.int .u8 (0)), (.int .u8 (0)), (.int .u8 (0)), (.int .u8 (0)), (.int .u8 (0)), (.int .u8 (0)), (.int .u8 (0)), (.int .u8 (0)), (.int .u8 (0))], true, false⟩) (.node (some ⟨(.struct [(0, 9)]), 1, 16, [(.str [])], true, true⟩) .leaf .leaf) (.node none .leaf .leaf))) (.node (some ⟨.func, 1, 8, [.nilfn], false, false⟩) (.node (some ⟨.func, 1, 8, [.nilfn], false, false⟩) (.node (some ⟨.func, 1, 8, [.nilfn], false, false⟩) .leaf .leaf) (.node none .leaf .leaf)) (.node none (.node (some ⟨.func, 1, 8, [.nilfn], false, false⟩) .leaf .leaf) (.node none .leaf .leaf)))) (.node (some ⟨(.struct [(0, 5), (1, 9)]), 2, 24, [(.int .u8 (0)), (.str [])], true, true⟩) (.node (some ⟨(.struct [(0, 9), (1, 9)]), 2, 32, [(.str []), (.str [])], true, true⟩) (.node (some ⟨.func, 1, 8, [.nilfn], false, false⟩) (.node (some ⟨(.struct [(0, 9), (1, 9), (2, 74)]), 3, 48, [(.str []), (.str []), .nili], true, false⟩) .leaf .leaf) (.node none .leaf .leaf)) (.node (some ⟨.func, 1, 8, [.nilfn], false, false⟩) (.node (some ⟨.func, 1, 8, [.nilfn], false, false⟩) .leaf .leaf) (.node none .leaf .leaf))) (.node (some ⟨(.slice 57), 1, 24, [.nils], false, false⟩) (.node (some ⟨.func, 1, 8, [.nilfn], false, false⟩) (.node (some ⟨(.struct [(0, 150), (1, 150), (2, 150)]), 3, 6, [(.int .u16 (0)), (.int .u16 (0)), (.int .u16 (0))], true, true⟩) .leaf .leaf) (.node none .leaf .leaf)) (.node (some ⟨.func, 1, 8, [.nilfn], false, false⟩) (.node (some ⟨(.struct [(0, 182)]), 0, 0, [], true, false⟩) .leaf .leaf) (.node none .leaf .leaf))))) (.node (some ⟨(.int .u64), 1, 8, [(.int .u64 (0))], false, false⟩) (.node (some ⟨(.iface true), 1, 16, [.nili], false, false⟩) (.node (some ⟨.func, 1, 8, [.nilfn], false, false⟩) (.node (some ⟨.func, 1, 8, [.nilfn], false, false⟩) (.node (some ⟨.func, 1, 8, [.nilfn], false, false⟩) .leaf .leaf) (.node none .leaf .leaf)) (.node none (.node (some ⟨(.ptr 155), 1, 8, [.nilp], false, false⟩) .leaf .leaf) (.node none .leaf .leaf))) (.node (some ⟨.func, 1, 8, [.nilfn], false, false⟩) (.node (some ⟨.func, 1, 8, [.nilfn], false, false⟩) (.node (some ⟨(.struct [(0, 146), (1, 147), (2, 3)]), 3, 56, [.nils, .nils, (.int .i64 (0))], true, true⟩) .leaf .leaf) (.node none .leaf .leaf)) (.node (some ⟨.func, 1, 8, [.nilfn], false, false⟩) (.node (some ⟨(.struct [(0, 17), (1, 17), (2, 17), (3, 9)]), 4, 40, [.nilp, .nilp, .nilp, (.str [])], true, false⟩) .leaf .leaf) (.node none .leaf .leaf)))) (.node (some ⟨(.int .i64), 1, 8, [(.int .i64 (0))], false, false⟩) (.node (some ⟨.func, 1, 8, [.nilfn], false, false⟩) (.node (some ⟨.func, 1, 8, [.nilfn], false, false⟩) (.node (some ⟨.func, 1, 8, [.nilfn], false, false⟩) .leaf .leaf) (.node none .leaf .leaf)) (.node (some ⟨(.int .u64), 1, 8, [(.int .u64 (0))], false, false⟩) (.node (some ⟨(.arr 20 108), 20, 160, [(.int .u64 (0)), (.int .u64 (0)), (.int .u64 (0)), (.int .u64 (0)), (.int .u64 (0)), (.int .u64 (0)), (.int .u64 (0)), (.int .u64 (0)), (.int .u64 (0)), (.int .u64 (0)), (.int .u64 (0)), (.int .u64 (0)), (.int .u64 (0)), (.int .u64 (0)), (.int .u64 (0)), (.int .u64 (0)), (.int .u64 (0)), (.int .u64 (0)), (.int .u64 (0)), (.int .u64 (0))], true, false⟩) .leaf .leaf) (.node none .leaf .leaf))) (.node (some ⟨.func, 1, 8, [.nilfn], false, false⟩) (.node (some ⟨.func, 1, 8, [.nilfn], false, false⟩) (.node (some ⟨.func, 1, 8, [.nilfn], false, false⟩) .leaf .leaf) (.node none .leaf .leaf)) (.node (some ⟨.func, 1, 8, [.nilfn], false, false⟩) (.node (some ⟨(.int .i32), 1, 4, [(.int .i32 (0))], false, false⟩) .leaf .leaf) (.node none .leaf .leaf)))))) (.node (some ⟨(.int .u8), 1, 1, [(.int .u8 (0))], false, false⟩) (.node (some ⟨.str, 1, 16, [(.str [])], false, false⟩) (.node (some ⟨(.struct [(0, 17)]), 1, 8, [.nilp], true, false⟩) (.node (some ⟨.func, 1, 8, [.nilfn], false, false⟩) (.node (some ⟨.func, 1, 8, [.nilfn], false, false⟩) (.node (some ⟨(.struct [(0, 3), (1, 3)]), 2, 16, [(.int .i64 (0)), (.int .i64 (0))], true, true⟩) .leaf .leaf) (.node none .leaf .leaf)) (.node (some ⟨.func, 1, 8, [.nilfn], false, false⟩) (.node (some ⟨.func, 1, 8, [.nilfn], false, false⟩) .leaf .leaf) (.node none .leaf .leaf))) (.node (some ⟨(.struct [(0, 46), (1, 3), (2, 3)]), 3, 40, [.nils, (.int .i64 (0)), (.int .i64 (0))], true, true⟩) (.node (some ⟨.func, 1, 8, [.nilfn], false, false⟩) (.node (some ⟨(.slice 152), 1, 24, [.nils], false, false⟩) .leaf .leaf) (.node none .leaf .leaf)) (.node (some ⟨.func, 1, 8, [.nilfn], false, false⟩) (.node (some ⟨(.arr 64 5), 64, 64, [(.int .u8 (0)), (.int .u8 (0)), (.int .u8 (0)), (.int .u8 (0)), (.int .u8 (0)), (.int .u8 (0)), (.int .u8 (0)), (.int .u8 (0)), (.int .u8 (0)), (.int .u8 (0)), (.int .u8 (0)), (.int .u8 (0)), (.int .u8 (0)), (.int .u8 (0)), (.int .u8 (0)), (.int .u8 (0)), (.int .u8 (0)), (.int .u8 (0)), (.int .u8 (0)), (.int .u8 (0)), (.int .u8 (0)), (.int .u8 (0)), (.int .u8 (0)), (.int .u8 (0)), (.int .u8 (0)), (.int .u8 (0)), (.int .u8 (0)), (.int .u8 (0)), (.int .u8 (0)), (.int .u8 (0)), (.int .u8 (0)), (.int .u8 (0)), (.int .u8 (0)), (.int .u8 (0)), (.int .u8 (0)), (.int .u8 (0)), (.int .u8 (0)), (.int .u8 (0)), (.int .u8 (0)), (.int .u8 (0)), (.int .u8 (0)), (.int .u8 (0)), (.int .u8 (0)), (.int .u8 (0)), (.int .u8 (0)), (.int .u8 (0)), (.int .u8 (0)), (.int .u8 (0)), (.int .u8 (0)), (.int .u8 (0)), (.int .u8 (0)), (.int .u8 (0)), (.int .u8 (0)), (.int .u8 (0)), (.int .u8 (0)), (.int .u8 (0)), (.int .u8 (0)), (.int .u8 (0)), (.int .u8 (0)), (.int .u8 (0)), (.int .u8 (0)), (.int .u8 (0)), (.int .u8 (0)), (.int .u8 (0))], true, false⟩) .leaf .leaf) (.node none .leaf .leaf)))) (.node (some ⟨(.struct [(0, 5), (1, 24), (3, 25)]), 4, 56, [(.int .u8 (0)), (.int .u8 (0)), (.str []), .nils], true, true⟩) (.node (some ⟨.func, 1, 8, [.nilfn], false, false⟩) (.node (some ⟨(.iface false), 1, 16, [.nili], false, false⟩) (.node (some ⟨.func, 1, 8, [.nilfn], false, false⟩) .leaf .leaf) (.node none .leaf .leaf)) (.node (some ⟨.func, 1, 8, [.nilfn], false, false⟩) (.node (some ⟨.func, 1, 8, [.nilfn], false, false⟩) .leaf .leaf) (.node none .leaf .leaf))) (.node none (.node (some ⟨.func, 1, 8, [.nilfn], false, false⟩) (.node (some ⟨(.struct [(0, 131), (1, 131), (2, 131)]), 3, 12, [(.int .u32 (0)), (.int .u32 (0)), (.int .u32 (0))], true, true⟩) .leaf .leaf) (.node none .leaf .leaf)) (.node (some ⟨.func, 1, 8, [.nilfn], false, false⟩) (.node (some ⟨(.int .u8), 1, 1, [(.int .u8 (0))], false, false⟩) .leaf .leaf) (.node none .leaf .leaf))))) (.node (some ⟨(.struct [(0, 9), (1, 12)]), 2, 24, [(.str []), (.int .u64 (0))], true, false⟩) (.node (some ⟨.func, 1, 8, [.nilfn], false, false⟩) (.node (some ⟨.func, 1, 8, [.nilfn], false, false⟩) (.node none (.node none .leaf .leaf) (.node none .leaf .leaf)) (.node (some ⟨.func, 1, 8, [.nilfn], false, false⟩) (.node (some ⟨(.arr 24 5), 24, 24, [(.int .u8 (0)), (.int .u8 (0)), (.int .u8 (0)), (.int .u8 (0)), (.int .u8 (0)), (.int .u8 (0)), (.int .u8 (0)), (.int .u8 (0)), (.int .u8 (0)), (.int .u8 (0)), (.int .u8 (0)), (.int .u8 (0)), (.int .u8 (0)), (.int .u8 (0)), (.int .u8 (0)), (.int .u8 (0)), (.int .u8 (0)), (.int .u8 (0)), (.int .u8 (0)), (.int .u8 (0)), (.int .u8 (0)), (.int .u8 (0)), (.int .u8 (0)), (.int .u8 (0))], true, false⟩) .leaf .leaf) (.node none .leaf .leaf))) (.node (some ⟨.func, 1, 8, [.nilfn], false, false⟩) (.node (some ⟨.func, 1, 8, [.nilfn], false, false⟩) (.node (some ⟨(.int .u16), 1, 2, [(.int .u16 (0))], false, false⟩) .leaf .leaf) (.node none .leaf .leaf)) (.node (some ⟨(.int .i64), 1, 8, [(.int .i64 (0))], false, false⟩) (.node (some ⟨(.arr 0 16), 0, 0, [], true, false⟩) .leaf .leaf) (.node none .leaf .leaf)))) (.node (some ⟨.func, 1, 8, [.nilfn], false, false⟩) (.node (some ⟨(.slice 24), 1, 24, [.nils], false, false⟩) (.node (some ⟨.func, 1, 8, [.nilfn], false, false⟩) (.node (some ⟨(.struct [(0, 32), (1, 4)]), 2, 32, [.nils, (.bool false)], true, true⟩) .leaf .leaf) (.node none .leaf .leaf)) (.node (some ⟨(.arr 256 4), 256, 256, [(.bool false), (.bool false), (.bool false), (.bool false), (.bool false), (.bool false), (.bool false), (.bool false), (.bool false), (.bool false), (.bool false), (.bool false), (.bool false), (.bool false), (.bool false), (.bool false), (.bool false), (.bool false), (.bool false), (.bool false), (.bool false), (.bool false), (.bool false), (.bool false), (.bool false), (.bool false), (.bool false), (.bool false), (.bool false), (.bool false), (.bool false), (.bool false), (.bool false), (.bool false), (.bool false), (.bool false), (.bool false), (.bool false), (.bool false), (.bool false), (.bool false), (.bool false), (.bool false), (.bool false), (.bool false), (.bool false), (.bool false), (.bool false), (.bool false), (.bool false), (.bool false), (.bool false), (.bool false), (.bool false), (.bool false), (.bool false), (.bool false), (.bool false), (.bool false), (.bool false), (.bool false), (.bool false), (.bool false), (.bool false), (.bool false), (.bool false), (.bool false), (.bool false), (.bool false), (.bool false), (.bool false), (.bool false), (.bool false), (.bool false), (.bool false), (.bool false), (.bool false), (.bool false), (.bool false), (.bool false), (.bool false), (.bool false), (.bool false), (.bool false), (.bool false), (.bool false), (.bool false), (.bool false), (.bool false), (.bool false), (.bool false), (.bool false), (.bool false), (.bool false), (.bool false), (.bool false), (.bool false), (.bool false), (.bool false), (.bool false), (.bool false), (.bool false), (.bool false), (.bool false), (.bool false), (.bool false), (.bool false), (.bool false), (.bool false), (.bool false), (.bool false), (.bool false), (.bool false), (.bool false), (.bool false), (.bool false), (.bool false), (.bool false), (.bool false), (.bool false), (.bool false), (.bool false), (.bool false), (.bool false), (.bool false), (.bool false), (.bool false), (.bool false), (.bool false), (.bool false), (.bool false), (.bool false), (.bool false), (.bool false), (.bool false), (.bool false), (.bool false), (.bool false), (.bool false), (.bool false), (.bool false), (.bool false), (.bool false), (.bool false), (.bool false), (.bool false), (.bool false), (.bool false), (.bool false), (.bool false), (.bool false), (.bool false), (.bool false), (.bool false), (.bool false), (.bool false), (.bool false), (.bool false), (.bool false), (.bool false), (.bool false), (.bool false), (.bool false), (.bool false), (.bool false), (.bool false), (.bool false), (.bool false), (.bool false), (.bool false), (.bool false), (.bool false), (.bool false), (.bool false), (.bool false), (.bool false), (.bool false), (.bool false), (.bool false), (.bool false), (.bool false), (.bool false), (.bool false), (.bool false), (.bool false), (.bool false), (.bool false), (.bool false), (.bool false), (.bool false), (.bool false), (.bool false), (.bool false), (.bool false), (.bool false), (.bool false), (.bool false), (.bool false), (.bool false), (.bool false), (.bool false), (.bool false), (.bool false), (.bool false), (.bool false), (.bool false), (.bool false), (.bool false), (.bool false), (.bool false), (.bool false), (.bool false), (.bool false), (.bool false), (.bool false), (.bool false), (.bool false), (.bool false), (.bool false), (.bool false), (.bool false), (.bool false), (.bool false), (.bool false), (.bool false), (.bool false), (.bool false), (.bool false), (.bool false), (.bool false), (.bool false), (.bool false), (.bool false), (.bool false), (.bool false), (.bool false), (.bool false), (.bool false), (.bool false), (.bool false), (.bool false), (.bool false), (.bool false), (.bool false), (.bool false), (.bool false), (.bool false), (.bool false), (.bool false), (.bool false), (.bool false), (.bool false), (.bool false), (.bool false), (.bool false), (.bool false)], true, false⟩) (.node (some ⟨.func, 1, 8, [.nilfn], false, false⟩) .leaf .leaf) (.node none .leaf .leaf))) (.node (some ⟨.func, 1, 8, [.nilfn], false, false⟩) (.node (some ⟨(.struct [(0, 5), (1, 5)]), 2, 2, [(.int .u8 (0)), (.int .u8 (0))], true, true⟩) (.node (some ⟨(.ptr 5), 1, 8, [.nilp], false, false⟩) .leaf .leaf) (.node none .leaf .leaf)) (.node (some ⟨(.slice 3), 1, 24, [.nils], false, false⟩) (.node (some ⟨(.struct [(0, 12), (1, 12), (2, 131), (3, 185), (4, 5), (5, 5), (6, 186), (7, 187), (8, 158), (9, 188), (10, 189)]), 11, 48, [(.int .u64 (0)), (.int .u64 (0)), (.int .u32 (0)), (.int .u8 (0)), (.int .u8 (0)), (.int .u8 (0)), (.int .u8 (0)), .nilfn, .nilp, (.int .i32 (0)), (.int .i32 (0))], true, false⟩) .leaf .leaf) (.node none .leaf .leaf))))))))
theorem vT_ok : TOk Tryz.prog vT := tt_ok (d := 8) (by kernel_rfl)
noncomputable def vF : Tr Func := (.node none (.node none (.node (some Tryz.f3) (.node (some Tryz.f7) (.node (some Tryz.f15) (.node (some Tryz.f31) (.node (some Tryz.f63) (.node none .leaf .leaf) (.node none .leaf .leaf)) (.node (some Tryz.f95) (.node none .leaf .leaf) .leaf)) (.node (some Tryz.f47) (.node none (.node none .leaf .leaf) .leaf) (.node none (.node none .leaf .leaf) .leaf))) (.node (some Tryz.f23) (.node (some Tryz.f39) (.node (some Tryz.f71) (.node none .leaf .leaf) .leaf) (.node none (.node none .leaf .leaf) .leaf)) (.node (some Tryz.f55) (.node (some Tryz.f87) (.node (some Tryz.f151) .leaf .leaf) .leaf) (.node (some Tryz.f119) (.node none .leaf .leaf) .leaf)))) (.node (some Tryz.f11) (.node (some Tryz.f19) (.node (some Tryz.f35) (.node (some Tryz.f67) (.node (some Tryz.f131) .leaf .leaf) .leaf) (.node (some Tryz.f99) (.node none .leaf .leaf) .leaf)) (.node (some Tryz.f51) (.node none (.node none .leaf .leaf) .leaf) (.node (some Tryz.f115) (.node none .leaf .leaf) .leaf))) (.node (some Tryz.f27) (.node (some Tryz.f43) (.node (some Tryz.f75) (.node none .leaf .leaf) .leaf) (.node none (.node none .leaf .leaf) .leaf)) (.node (some Tryz.f59) (.node (some Tryz.f91) (.node none .leaf .leaf) .leaf) (.node none (.node none .leaf .leaf) .leaf))))) (.node (some Tryz.f5) (.node (some Tryz.f9) (.node (some Tryz.f17) (.node (some Tryz.f33) (.node (some Tryz.f65) (.node (some Tryz.f129) .leaf .leaf) (.node none .leaf .leaf)) (.node (some Tryz.f97) (.node none .leaf .leaf) .leaf)) (.node (some Tryz.f49) (.node (some Tryz.f81) (.node (some Tryz.f145) .leaf .leaf) .leaf) (.node none (.node none .leaf .leaf) .leaf))) (.node (some Tryz.f25) (.node (some Tryz.f41) (.node (some Tryz.f73) (.node none .leaf .leaf) .leaf) (.node none (.node none .leaf .leaf) .leaf)) (.node (some Tryz.f57) (.node (some Tryz.f89) (.node none .leaf .leaf) .leaf) (.node none (.node none .leaf .leaf) .leaf)))) (.node (some Tryz.f13) (.node (some Tryz.f21) (.node (some Tryz.f37) (.node (some Tryz.f69) (.node (some Tryz.f133) .leaf .leaf) .leaf) (.node none (.node none .leaf .leaf) .leaf)) (.node (some Tryz.f53) (.node (some Tryz.f85) (.node none .leaf .leaf) .leaf) (.node (some Tryz.f117) (.node none .leaf .leaf) .leaf))) (.node (some Tryz.f29) (.node (some Tryz.f45) (.node (some Tryz.f77) (.node none .leaf .leaf) .leaf) (.node none (.node none .leaf .leaf) .leaf)) (.node (some Tryz.f61) (.node (some Tryz.f93) (.node none .leaf .leaf) .leaf) (.node none (.node none .leaf .leaf) .leaf)))))) (.node none (.node (some Tryz.f4) (.node (some Tryz.f8) (.node (some Tryz.f16) (.node (some Tryz.f32) (.node (some Tryz.f64) (.node (some Tryz.f128) .leaf .leaf) (.node none .leaf .leaf)) (.node (some Tryz.f96) (.node none .leaf .leaf) .leaf)) (.node none (.node (some Tryz.f80) (.node none .leaf .leaf) .leaf) (.node none (.node none .leaf .leaf) .leaf))) (.node (some Tryz.f24) (.node (some Tryz.f40) (.node (some Tryz.f72) (.node none .leaf .leaf) .leaf) (.node none (.node none .leaf .leaf) .leaf)) (.node (some Tryz.f56) (.node (some Tryz.f88) (.node none .leaf .leaf) .leaf) (.node (some Tryz.f120) (.node none .leaf .leaf) .leaf)))) (.node (some Tryz.f12) (.node (some Tryz.f20) (.node (some Tryz.f36) (.node (some Tryz.f68) (.node (some Tryz.f132) .leaf .leaf) .leaf) (.node (some Tryz.f100) (.node none .leaf .leaf) .leaf)) (.node none (.node (some Tryz.f84) (.node none .leaf .leaf) .leaf) (.node (some Tryz.f116) (.node none .leaf .leaf) .leaf))) (.node (some Tryz.f28) (.node (some Tryz.f44) (.node (some Tryz.f76) (.node (some Tryz.f140) .leaf .leaf) .leaf) (.node none (.node none .leaf .leaf) .leaf)) (.node (some Tryz.f60) (.node (some Tryz.f92) (.node none .leaf .leaf) .leaf) (.node none (.node none .leaf .leaf) .leaf))))) (.node none (.node (some Tryz.f10) (.node (some Tryz.f18) (.node (some Tryz.f34) (.node (some Tryz.f66) (.node (some Tryz.f130) .leaf .leaf) .leaf) (.node (some Tryz.f98) (.node none .leaf .leaf) .leaf)) (.node (some Tryz.f50) (.node none (.node none .leaf .leaf) .leaf) (.node (some Tryz.f114) (.node none .leaf .leaf) .leaf))) (.node (some Tryz.f26) (.node (some Tryz.f42) (.node (some Tryz.f74) (.node none .leaf .leaf) .leaf) (.node none (.node none .leaf .leaf) .leaf)) (.node (some Tryz.f58) (.node (some Tryz.f90) (.node none .leaf .leaf) .leaf) (.node none (.node none .leaf .leaf) .leaf)))) (.node (some Tryz.f14) (.node (some Tryz.f22) (.node (some Tryz.f38) (.node (some Tryz.f70) (.node none .leaf .leaf) .leaf) (.node none (.node none .leaf .leaf) .leaf)) (.node (some Tryz.f54) (.node none (.node (some Tryz.f150) .leaf .leaf) .leaf) (.node (some Tryz.f118) (.node none .leaf .leaf) .leaf))) (.node (some Tryz.f30) (.node (some Tryz.f46) (.node none (.node none .leaf .leaf) .leaf) (.node none (.node none .leaf .leaf) .leaf)) (.node (some Tryz.f62) (.node (some Tryz.f94) (.node none .leaf .leaf) .leaf) (.node none (.node none .leaf .leaf) .leaf)))))))
theorem vF_ok : Tr.Every (FnOk Tryz.prog) vF := (Tr.every_node noFn (Tr.every_node noFn (Tr.every_node (fnOk Tryz.func3 Tryz.call3 (by kernel_rfl)) (Tr.every_node (fnOk Tryz.func7 Tryz.call7 (by kernel_rfl)) (Tr.every_node (fnOk Tryz.func15 Tryz.call15 (by kernel_rfl)) (Tr.every_node (fnOk Tryz.func31 Tryz.call31 (by kernel_rfl)) (Tr.every_node (fnOk Tryz.func63 Tryz.call63 (by kernel_rfl)) (Tr.every_node noFn Tr.every_leaf Tr.every_leaf) (Tr.every_node noFn Tr.every_leaf Tr.every_leaf)) (Tr.every_node (fnOk Tryz.func95 Tryz.call95 (by kernel_rfl)) (Tr.every_node noFn Tr.every_leaf Tr.every_leaf) Tr.every_leaf)) (Tr.every_node (fnOk Tryz.func47 Tryz.call47 (by kernel_rfl)) (Tr.every_node noFn (Tr.every_node noFn Tr.every_leaf Tr.every_leaf) Tr.every_leaf) (Tr.every_node noFn (Tr.every_node noFn Tr.every_leaf Tr.every_leaf) Tr.every_leaf))) (Tr.every_node (fnOk Tryz.func23 Tryz.call23 (by kernel_rfl)) (Tr.every_node (fnOk Tryz.func39 Tryz.call39 (by kernel_rfl)) (Tr.every_node (fnOk Tryz.func71 Tryz.call71 (by kernel_rfl)) (Tr.every_node noFn Tr.every_leaf Tr.every_leaf) Tr.every_leaf) (Tr.every_node noFn (Tr.every_node noFn Tr.every_leaf Tr.every_leaf) Tr.every_leaf)) (Tr.every_node (fnOk Tryz.func55 Tryz.call55 (by kernel_rfl)) (Tr.every_node (fnOk Tryz.func87 Tryz.call87 (by kernel_rfl)) (Tr.every_node (fnOk Tryz.func151 Tryz.call151 (by kernel_rfl)) Tr.every_leaf Tr.every_leaf) Tr.every_leaf) (Tr.every_node (fnOk Tryz.func119 Tryz.call119 (by kernel_rfl)) (Tr.every_node noFn Tr.every_leaf Tr.every_leaf) Tr.every_leaf)))) (Tr.every_node (fnOk Tryz.func11 Tryz.call11 (by kernel_rfl)) (Tr.every_node (fnOk Tryz.func19 Tryz.call19 (by kernel_rfl)) (Tr.every_node (fnOk Tryz.func35 Tryz.call35 (by kernel_rfl)) (Tr.every_node (fnOk Tryz.func67 Tryz.call67 (by kernel_rfl)) (Tr.every_node (fnOk Tryz.func131 Tryz.call131 (by kernel_rfl)) Tr.every_leaf Tr.every_leaf) Tr.every_leaf) (Tr.every_node (fnOk Tryz.func99 Tryz.call99 (by kernel_rfl)) (Tr.every_node noFn Tr.every_leaf Tr.every_leaf) Tr.every_leaf)) (Tr.every_node (fnOk Tryz.func51 Tryz.call51 (by kernel_rfl)) (Tr.every_node noFn (Tr.every_node noFn Tr.every_leaf Tr.every_leaf) Tr.every_leaf) (Tr.every_node (fnOk Tryz.func115 Tryz.call115 (by kernel_rfl)) (Tr.every_node noFn Tr.every_leaf Tr.every_leaf) Tr.every_leaf))) (Tr.every_node (fnOk Tryz.func27 Tryz.call27 (by kernel_rfl)) (Tr.every_node (fnOk Tryz.func43 Tryz.call43 (by kernel_rfl)) (Tr.every_node (fnOk Tryz.func75 Tryz.call75 (by kernel_rfl)) (Tr.every_node noFn Tr.every_leaf Tr.every_leaf) Tr.every_leaf) (Tr.every_node noFn (Tr.every_node noFn Tr.every_leaf Tr.every_leaf) Tr.every_leaf)) (Tr.every_node (fnOk Tryz.func59 Tryz.call59 (by kernel_rfl)) (Tr.every_node (fnOk Tryz.func91 Tryz.call91 (by kernel_rfl)) (Tr.every_node noFn Tr.every_leaf Tr.every_leaf) Tr.every_leaf) (Tr.every_node noFn (Tr.every_node noFn Tr.every_leaf Tr.every_leaf) Tr.every_leaf))))) (Tr.every_node (fnOk Tryz.func5 Tryz.call5 (by kernel_rfl)) (Tr.every_node (fnOk Tryz.func9 Tryz.call9 (by kernel_rfl)) (Tr.every_node (fnOk Tryz.func17 Tryz.call17 (by kernel_rfl)) (Tr.every_node (fnOk Tryz.func33 Tryz.call33 (by kernel_rfl)) (Tr.every_node (fnOk Tryz.func65 Tryz.call65 (by kernel_rfl)) (Tr.every_node (fnOk Tryz.func129 Tryz.call129 (by kernel_rfl)) Tr.every_leaf Tr.every_leaf) (Tr.every_node noFn Tr.every_leaf Tr.every_leaf)) (Tr.every_node (fnOk Tryz.func97 Tryz.call97 (by kernel_rfl)) (Tr.every_node noFn Tr.every_leaf Tr.every_leaf) Tr.every_leaf)) (Tr.every_node (fnOk Tryz.func49 Tryz.call49 (by kernel_rfl)) (Tr.every_node (fnOk Tryz.func81 Tryz.call81 (by kernel_rfl)) (Tr.every_node (fnOk Tryz.func145 Tryz.call145 (by kernel_rfl)) Tr.every_leaf Tr.every_leaf) Tr.every_leaf) (Tr.every_node noFn (Tr.every_node noFn Tr.every_leaf Tr.every_leaf) Tr.every_leaf))) (Tr.every_node (fnOk Tryz.func25 Tryz.call25 (by kernel_rfl)) (Tr.every_node (fnOk Tryz.func41 Tryz.call41 (by kernel_rfl)) (Tr.every_node (fnOk Tryz.func73 Tryz.call73 (by kernel_rfl)) (Tr.every_node noFn Tr.every_leaf Tr.every_leaf) Tr.every_leaf) (Tr.every_node noFn (Tr.every_node noFn Tr.every_leaf Tr.every_leaf) Tr.every_leaf)) (Tr.every_node (fnOk Tryz.func57 Tryz.call57 (by kernel_rfl)) (Tr.every_node (fnOk Tryz.func89 Tryz.call89 (by kernel_rfl)) (Tr.every_node noFn Tr.every_leaf Tr.every_leaf) Tr.every_leaf) (Tr.every_node noFn (Tr.every_node noFn Tr.every_leaf Tr.every_leaf) Tr.every_leaf)))) (Tr.every_node (fnOk Tryz.func13 Tryz.call13 (by kernel_rfl)) (Tr.every_node (fnOk Tryz.func21 Tryz.call21 (by kernel_rfl)) (Tr.every_node (fnOk Tryz.func37 Tryz.call37 (by kernel_rfl)) (Tr.every_node (fnOk Tryz.func69 Tryz.call69 (by kernel_rfl)) (Tr.every_node (fnOk Tryz.func133 Tryz.call133 (by kernel_rfl)) Tr.every_leaf Tr.every_leaf) Tr.every_leaf) (Tr.every_node noFn (Tr.every_node noFn Tr.every_leaf Tr.every_leaf) Tr.every_leaf)) (Tr.every_node (fnOk Tryz.func53 Tryz.call53 (by kernel_rfl)) (Tr.every_node (fnOk Tryz.func85 Tryz.call85 (by kernel_rfl)) (Tr.every_node noFn Tr.every_leaf Tr.every_leaf) Tr.every_leaf) (Tr.every_node (fnOk Tryz.func117 Tryz.call117 (by kernel_rfl)) (Tr.every_node noFn Tr.every_leaf Tr.every_leaf) Tr.every_leaf))) (Tr.every_node (fnOk Tryz.func29 Tryz.call29 (by kernel_rfl)) (Tr.every_node (fnOk Tryz.func45 Tryz.call45 (by kernel_rfl)) (Tr.every_node (fnOk Tryz.func77 Tryz.call77 (by kernel_rfl)) (Tr.every_node noFn Tr.every_leaf Tr.every_leaf) Tr.every_leaf) (Tr.every_node noFn (Tr.every_node noFn Tr.every_leaf Tr.every_leaf) Tr.every_leaf)) (Tr.every_node (fnOk Tryz.func61 Tryz.call61 (by kernel_rfl)) (Tr.every_node (fnOk Tryz.func93 Tryz.call93 (by kernel_rfl)) (Tr.every_node noFn Tr.every_leaf Tr.every_leaf) Tr.every_leaf) (Tr.every_node noFn (Tr.every_node noFn Tr.every_leaf Tr.every_leaf) Tr.every_leaf)))))) (Tr.every_node noFn (Tr.every_node (fnOk Tryz.func4 Tryz.call4 (by kernel_rfl)) (Tr.every_node (fnOk Tryz.func8 Tryz.call8 (by kernel_rfl)) (Tr.every_node (fnOk Tryz.func16 Tryz.call16 (by kernel_rfl)) (Tr.every_node (fnOk Tryz.func32 Tryz.call32 (by kernel_rfl)) (Tr.every_node (fnOk Tryz.func64 Tryz.call64 (by kernel_rfl)) (Tr.every_node (fnOk Tryz.func128 Tryz.call128 (by kernel_rfl)) Tr.every_leaf Tr.every_leaf) (Tr.every_node noFn Tr.every_leaf Tr.every_leaf)) (Tr.every_node (fnOk Tryz.func96 Tryz.call96 (by kernel_rfl)) (Tr.every_node noFn Tr.every_leaf Tr.every_leaf) Tr.every_leaf)) (Tr.every_node noFn (Tr.every_node (fnOk Tryz.func80 Tryz.call80 (by kernel_rfl)) (Tr.every_node noFn Tr.every_leaf Tr.every_leaf) Tr.every_leaf) (Tr.every_node noFn (Tr.every_node noFn Tr.every_leaf Tr.every_leaf) Tr.every_leaf))) (Tr.every_node (fnOk Tryz.func24 Tryz.call24 (by kernel_rfl)) (Tr.every_node (fnOk Tryz.func40 Tryz.call40 (by kernel_rfl)) (Tr.every_node (fnOk Tryz.func72 Tryz.call72 (by kernel_rfl)) (Tr.every_node noFn Tr.every_leaf Tr.every_leaf) Tr.every_leaf) (Tr.every_node noFn (Tr.every_node noFn Tr.every_leaf Tr.every_leaf) Tr.every_leaf)) (Tr.every_node (fnOk Tryz.func56 Tryz.call56 (by kernel_rfl)) (Tr.every_node (fnOk Tryz.func88 Tryz.call88 (by kernel_rfl)) (Tr.every_node noFn Tr.every_leaf Tr.every_leaf) Tr.every_leaf) (Tr.every_node (fnOk Tryz.func120 Tryz.call120 (by kernel_rfl)) (Tr.every_node noFn Tr.every_leaf Tr.every_leaf) Tr.every_leaf)))) (Tr.every_node (fnOk Tryz.func12 Tryz.call12 (by kernel_rfl)) (Tr.every_node (fnOk Tryz.func20 Tryz.call20 (by kernel_rfl)) (Tr.every_node (fnOk Tryz.func36 Tryz.call36 (by kernel_rfl)) (Tr.every_node (fnOk Tryz.func68 Tryz.call68 (by kernel_rfl)) (Tr.every_node (fnOk Tryz.func132 Tryz.call132 (by kernel_rfl)) Tr.every_leaf Tr.every_leaf) Tr.every_leaf) (Tr.every_node (fnOk Tryz.func100 Tryz.call100 (by kernel_rfl)) (Tr.every_node noFn Tr.every_leaf Tr.every_leaf) Tr.every_leaf)) (Tr.every_node noFn (Tr.every_node (fnOk Tryz.func84 Tryz.call84 (by kernel_rfl)) (Tr.every_node noFn Tr.every_leaf Tr.every_leaf) Tr.every_leaf) (Tr.every_node (fnOk Tryz.func116 Tryz.call116 (by kernel_rfl)) (Tr.every_node noFn Tr.every_leaf Tr.every_leaf) Tr.every_leaf))) (Tr.every_node (fnOk Tryz.func28 Tryz.call28 (by kernel_rfl)) (Tr.every_node (fnOk Tryz.func44 Tryz.call44 (by kernel_rfl)) (Tr.every_node (fnOk Tryz.func76 Tryz.call76 (by kernel_rfl)) (Tr.every_node (fnOk Tryz.func140 Tryz.call140 (by kernel_rfl)) Tr.every_leaf Tr.every_leaf) Tr.every_leaf) (Tr.every_node noFn (Tr.every_node noFn Tr.every_leaf Tr.every_leaf) Tr.every_leaf)) (Tr.every_node (fnOk Tryz.func60 Tryz.call60 (by kernel_rfl)) (Tr.every_node (fnOk Tryz.func92 Tryz.call92 (by kernel_rfl)) (Tr.every_node noFn Tr.every_leaf Tr.every_leaf) Tr.every_leaf) (Tr.every_node noFn (Tr.every_node noFn Tr.every_leaf Tr.every_leaf) Tr.every_leaf))))) (Tr.every_node noFn (Tr.every_node (fnOk Tryz.func10 Tryz.call10 (by kernel_rfl)) (Tr.every_node (fnOk Tryz.func18 Tryz.call18 (by kernel_rfl)) (Tr.every_node (fnOk Tryz.func34 Tryz.call34 (by kernel_rfl)) (Tr.every_node (fnOk Tryz.func66 Tryz.call66 (by kernel_rfl)) (Tr.every_node (fnOk Tryz.func130 Tryz.call130 (by kernel_rfl)) Tr.every_leaf Tr.every_leaf) Tr.every_leaf) (Tr.every_node (fnOk Tryz.func98 Tryz.call98 (by kernel_rfl)) (Tr.every_node noFn Tr.every_leaf Tr.every_leaf) Tr.every_leaf)) (Tr.every_node (fnOk Tryz.func50 Tryz.call50 (by kernel_rfl)) (Tr.every_node noFn (Tr.every_node noFn Tr.every_leaf Tr.every_leaf) Tr.every_leaf) (Tr.every_node (fnOk Tryz.func114 Tryz.call114 (by kernel_rfl)) (Tr.every_node noFn Tr.every_leaf Tr.every_leaf) Tr.every_leaf))) (Tr.every_node (fnOk Tryz.func26 Tryz.call26 (by kernel_rfl)) (Tr.every_node (fnOk Tryz.func42 Tryz.call42 (by kernel_rfl)) (Tr.every_node (fnOk Tryz.func74 Tryz.call74 (by kernel_rfl)) (Tr.every_node noFn Tr.every_leaf Tr.every_leaf) Tr.every_leaf) (Tr.every_node noFn (Tr.every_node noFn Tr.every_leaf Tr.every_leaf) Tr.every_leaf)) (Tr.every_node (fnOk Tryz.func58 Tryz.call58 (by kernel_rfl)) (Tr.every_node (fnOk Tryz.func90 Tryz.call90 (by kernel_rfl)) (Tr.every_node noFn Tr.every_leaf Tr.every_leaf) Tr.every_leaf) (Tr.every_node noFn (Tr.every_node noFn Tr.every_leaf Tr.every_leaf) Tr.every_leaf)))) (Tr.every_node (fnOk Tryz.func14 Tryz.call14 (by kernel_rfl)) (Tr.every_node (fnOk Tryz.func22 Tryz.call22 (by kernel_rfl)) (Tr.every_node (fnOk Tryz.func38 Tryz.call38 (by kernel_rfl)) (Tr.every_node (fnOk Tryz.func70 Tryz.call70 (by kernel_rfl)) (Tr.every_node noFn Tr.every_leaf Tr.every_leaf) Tr.every_leaf) (Tr.every_node noFn (Tr.every_node noFn Tr.every_leaf Tr.every_leaf) Tr.every_leaf)) (Tr.every_node (fnOk Tryz.func54 Tryz.call54 (by kernel_rfl)) (Tr.every_node noFn (Tr.every_node (fnOk Tryz.func150 Tryz.call150 (by kernel_rfl)) Tr.every_leaf Tr.every_leaf) Tr.every_leaf) (Tr.every_node (fnOk Tryz.func118 Tryz.call118 (by kernel_rfl)) (Tr.every_node noFn Tr.every_leaf Tr.every_leaf) Tr.every_leaf))) (Tr.every_node (fnOk Tryz.func30 Tryz.call30 (by kernel_rfl)) (Tr.every_node (fnOk Tryz.func46 Tryz.call46 (by kernel_rfl)) (Tr.every_node noFn (Tr.every_node noFn Tr.every_leaf Tr.every_leaf) Tr.every_leaf) (Tr.every_node noFn (Tr.every_node noFn Tr.every_leaf Tr.every_leaf) Tr.every_leaf)) (Tr.every_node (fnOk Tryz.func62 Tryz.call62 (by kernel_rfl)) (Tr.every_node (fnOk Tryz.func94 Tryz.call94 (by kernel_rfl)) (Tr.every_node noFn Tr.every_leaf Tr.every_leaf) Tr.every_leaf) (Tr.every_node noFn (Tr.every_node noFn Tr.every_leaf Tr.every_leaf) Tr.every_leaf)))))))
noncomputable def vP : Tr Prim := (.node none (.node none (.node none (.node none (.node none (.node none (.node none (.node none .leaf .leaf) (.node none .leaf .leaf)) (.node none (.node none .leaf .leaf) .leaf)) (.node none (.node (some (.lib libTrimLeft)) (.node none .leaf .leaf) .leaf) (.node none (.node none .leaf .leaf) .leaf))) (.node none (.node none (.node none (.node none .leaf .leaf) .leaf) (.node none (.node none .leaf .leaf) .leaf)) (.node none (.node none (.node none .leaf .leaf) .leaf) (.node none (.node none .leaf .leaf) .leaf)))) (.node none (.node none (.node none (.node none (.node none .leaf .leaf) .leaf) (.node none (.node none .leaf .leaf) .leaf)) (.node none (.node none (.node none .leaf .leaf) .leaf) (.node none (.node none .leaf .leaf) .leaf))) (.node none (.node none (.node none (.node none .leaf .leaf) .leaf) (.node none (.node none .leaf .leaf) .leaf)) (.node none (.node none (.node none .leaf .leaf) .leaf) (.node none (.node none .leaf .leaf) .leaf))))) (.node none (.node none (.node none (.node none (.node none (.node none .leaf .leaf) (.node none .leaf .leaf)) (.node none (.node none .leaf .leaf) .leaf)) (.node none (.node none (.node none .leaf .leaf) .leaf) (.node none (.node none .leaf .leaf) .leaf))) (.node none (.node none (.node none (.node none .leaf .leaf) .leaf) (.node none (.node none .leaf .leaf) .leaf)) (.node none (.node none (.node none .leaf .leaf) .leaf) (.node none (.node none .leaf .leaf) .leaf)))) (.node none (.node none (.node none (.node none (.node none .leaf .leaf) .leaf) (.node none (.node none .leaf .leaf) .leaf)) (.node none (.node none (.node none .leaf .leaf) .leaf) (.node none (.node none .leaf .leaf) .leaf))) (.node none (.node none (.node none (.node none .leaf .leaf) .leaf) (.node none (.node none .leaf .leaf) .leaf)) (.node none (.node none (.node none .leaf .leaf) .leaf) (.node none (.node none .leaf .leaf) .leaf)))))) (.node none (.node none (.node none (.node none (.node none (.node none (.node none .leaf .leaf) (.node none .leaf .leaf)) (.node none (.node none .leaf .leaf) .leaf)) (.node (some (.lib libValid)) (.node none (.node none .leaf .leaf) .leaf) (.node (some .indexByte) (.node none .leaf .leaf) .leaf))) (.node none (.node none (.node none (.node none .leaf .leaf) .leaf) (.node none (.node none .leaf .leaf) .leaf)) (.node none (.node none (.node none .leaf .leaf) .leaf) (.node none (.node none .leaf .leaf) .leaf)))) (.node none (.node none (.node none (.node none (.node none .leaf .leaf) .leaf) (.node none (.node none .leaf .leaf) .leaf)) (.node (some (.lib (libAtoi 121))) (.node none (.node none .leaf .leaf) .leaf) (.node none (.node none .leaf .leaf) .leaf))) (.node none (.node none (.node none (.node none .leaf .leaf) .leaf) (.node none (.node none .leaf .leaf) .leaf)) (.node none (.node none (.node none .leaf .leaf) .leaf) (.node none (.node none .leaf .leaf) .leaf))))) (.node none (.node none (.node none (.node none (.node none (.node none .leaf .leaf) .leaf) (.node none (.node none .leaf .leaf) .leaf)) (.node none (.node none (.node none .leaf .leaf) .leaf) (.node none (.node none .leaf .leaf) .leaf))) (.node none (.node none (.node none (.node none .leaf .leaf) .leaf) (.node none (.node none .leaf .leaf) .leaf)) (.node none (.node none (.node none .leaf .leaf) .leaf) (.node none (.node none .leaf .leaf) .leaf)))) (.node none (.node none (.node none (.node none (.node none .leaf .leaf) .leaf) (.node none (.node none .leaf .leaf) .leaf)) (.node none (.node (some (.lib libDecode)) (.node none .leaf .leaf) .leaf) (.node none (.node none .leaf .leaf) .leaf))) (.node none (.node none (.node none (.node none .leaf .leaf) .leaf) (.node none (.node none .leaf .leaf) .leaf)) (.node none (.node none (.node none .leaf .leaf) .leaf) (.node none (.node none .leaf .leaf) .leaf)))))))
noncomputable def vG : Tr (List AV) := (.node (some [(.int .u8 (240)), (.int .u8 (240)), (.int .u8 (240)), (.int .u8 (240)), (.int .u8 (240)), (.int .u8 (240)), (.int .u8 (240)), (.int .u8 (240)), (.int .u8 (240)), (.int .u8 (240)), (.int .u8 (240)), (.int .u8 (240)), (.int .u8 (240)), (.int .u8 (240)), (.int .u8 (240)), (.int .u8 (240)), (.int .u8 (240)), (.int .u8 (240)), (.int .u8 (240)), (.int .u8 (240)), (.int .u8 (240)), (.int .u8 (240)), (.int .u8 (240)), (.int .u8 (240)), (.int .u8 (240)), (.int .u8 (240)), (.int .u8 (240)), (.int .u8 (240)), (.int .u8 (240)), (.int .u8 (240)), (.int .u8 (240)), (.int .u8 (240)), (.int .u8 (240)), (.int .u8 (240)), (.int .u8 (240)), (.int .u8 (240)), (.int .u8 (240)), (.int .u8 (240)), (.int .u8 (240)), (.int .u8 (240)), (.int .u8 (240)), (.int .u8 (240)), (.int .u8 (240)), (.int .u8 (240)), (.int .u8 (240)), (.int .u8 (240)), (.int .u8 (240)), (.int .u8 (240)), (.int .u8 (240)), (.int .u8 (240)), (.int .u8 (240)), (.int .u8 (240)), (.int .u8 (240)), (.int .u8 (240)), (.int .u8 (240)), (.int .u8 (240)), (.int .u8 (240)), (.int .u8 (240)), (.int .u8 (240)), (.int .u8 (240)), (.int .u8 (240)), (.int .u8 (240)), (.int .u8 (240)), (.int .u8 (240)), (.int .u8 (240)), (.int .u8 (240)), (.int .u8 (240)), (.int .u8 (240)), (.int .u8 (240)), (.int .u8 (240)), (.int .u8 (240)), (.int .u8 (240)), (.int .u8 (240)), (.int .u8 (240)), (.int .u8 (240)), (.int .u8 (240)), (.int .u8 (240)), (.int .u8 (240)), (.int .u8 (240)), (.int .u8 (240)), (.int .u8 (240)), (.int .u8 (240)), (.int .u8 (240)), (.int .u8 (240)), (.int .u8 (240)), (.int .u8 (240)), (.int .u8 (240)), (.int .u8 (240)), (.int .u8 (240)), (.int .u8 (240)), (.int .u8 (240)), (.int .u8 (240)), (.int .u8 (240)), (.int .u8 (240)), (.int .u8 (240)), (.int .u8 (240)), (.int .u8 (240)), (.int .u8 (240)), (.int .u8 (240)), (.int .u8 (240)), (.int .u8 (240)), (.int .u8 (240)), (.int .u8 (240)), (.int .u8 (240)), (.int .u8 (240)), (.int .u8 (240)), (.int .u8 (240)), (.int .u8 (240)), (.int .u8 (240)), (.int .u8 (240)), (.int .u8 (240)), (.int .u8 (240)), (.int .u8 (240)), (.int .u8 (240)), (.int .u8 (240)), (.int .u8 (240)), (.int .u8 (240)), (.int .u8 (240)), (.int .u8 (240)), (.int .u8 (240)), (.int .u8 (240)), (.int .u8 (240)), (.int .u8 (240)), (.int .u8 (240)), (.int .u8 (240)), (.int .u8 (240)), (.int .u8 (240)), (.int .u8 (240)), (.int .u8 (241)), (.int .u8 (241)), (.int .u8 (241)), (.int .u8 (241)), (.int .u8 (241)), (.int .u8 (241)), (.int .u8 (241)), (.int .u8 (241)), (.int .u8 (241)), (.int .u8 (241)), (.int .u8 (241)), (.int .u8 (241)), (.int .u8 (241)), (.int .u8 (241)), (.int .u8 (241)), (.int .u8 (241)), (.int .u8 (241)), (.int .u8 (241)), (.int .u8 (241)), (.int .u8 (241)), (.int .u8 (241)), (.int .u8 (241)), (.int .u8 (241)), (.int .u8 (241)), (.int .u8 (241)), (.int .u8 (241)), (.int .u8 (241)), (.int .u8 (241)), (.int .u8 (241)), (.int .u8 (241)), (.int .u8 (241)), (.int .u8 (241)), (.int .u8 (241)), (.int .u8 (241)), (.int .u8 (241)), (.int .u8 (241)), (.int .u8 (241)), (.int .u8 (241)), (.int .u8 (241)), (.int .u8 (241)), (.int .u8 (241)), (.int .u8 (241)), (.int .u8 (241)), (.int .u8 (241)), (.int .u8 (241)), (.int .u8 (241)), (.int .u8 (241)), (.int .u8 (241)), (.int .u8 (241)), (.int .u8 (241)), (.int .u8 (241)), (.int .u8 (241)), (.int .u8 (241)), (.int .u8 (241)), (.int .u8 (241)), (.int .u8 (241)), (.int .u8 (241)), (.int .u8 (241)), (.int .u8 (241)), (.int .u8 (241)), (.int .u8 (241)), (.int .u8 (241)), (.int .u8 (241)), (.int .u8 (241)), (.int .u8 (241)), (.int .u8 (241)), (.int .u8 (2)), (.int .u8 (2)), (.int .u8 (2)), (.int .u8 (2)), (.int .u8 (2)), (.int .u8 (2)), (.int .u8 (2)), (.int .u8 (2)), (.int .u8 (2)), (.int .u8 (2)), (.int .u8 (2)), (.int .u8 (2)), (.int .u8 (2)), (.int .u8 (2)), (.int .u8 (2)), (.int .u8 (2)), (.int .u8 (2)), (.int .u8 (2)), (.int .u8 (2)), (.int .u8 (2)), (.int .u8 (2)), (.int .u8 (2)), (.int .u8 (2)), (.int .u8 (2)), (.int .u8 (2)), (.int .u8 (2)), (.int .u8 (2)), (.int .u8 (2)), (.int .u8 (2)), (.int .u8 (2)), (.int .u8 (19)), (.int .u8 (3)), (.int .u8 (3)), (.int .u8 (3)), (.int .u8 (3)), (.int .u8 (3)), (.int .u8 (3)), (.int .u8 (3)), (.int .u8 (3)), (.int .u8 (3)), (.int .u8 (3)), (.int .u8 (3)), (.int .u8 (3)), (.int .u8 (35)), (.int .u8 (3)), (.int .u8 (3)), (.int .u8 (52)), (.int .u8 (4)), (.int .u8 (4)), (.int .u8 (4)), (.int .u8 (68)), (.int .u8 (241)), (.int .u8 (241)), (.int .u8 (241)), (.int .u8 (241)), (.int .u8 (241)), (.int .u8 (241)), (.int .u8 (241)), (.int .u8 (241)), (.int .u8 (241)), (.int .u8 (241)), (.int .u8 (241))]) (.node (some [(.int .u8 (128)), (.int .u8 (191)), (.int .u8 (160)), (.int .u8 (191)), (.int .u8 (128)), (.int .u8 (159)), (.int .u8 (144)), (.int .u8 (191)), (.int .u8 (128)), (.int .u8 (143)), (.int .u8 (0)), (.int .u8 (0)), (.int .u8 (0)), (.int .u8 (0)), (.int .u8 (0)), (.int .u8 (0)), (.int .u8 (0)), (.int .u8 (0)), (.int .u8 (0)), (.int .u8 (0)), (.int .u8 (0)), (.int .u8 (0)), (.int .u8 (0)), (.int .u8 (0)), (.int .u8 (0)), (.int .u8 (0)), (.int .u8 (0)), (.int .u8 (0)), (.int .u8 (0)), (.int .u8 (0)), (.int .u8 (0)), (.int .u8 (0))]) (.node none (.node none .leaf .leaf) .leaf) (.node (some [(.opq true)]) (.node none .leaf .leaf) .leaf)) (.node (some [(.int .u8 (0)), (.int .u8 (0)), (.int .u8 (0)), (.int .u8 (0)), (.int .u8 (0)), (.int .u8 (0)), (.int .u8 (0)), (.int .u8 (0)), (.int .u8 (0)), (.int .u8 (1)), (.int .u8 (1)), (.int .u8 (1)), (.int .u8 (1)), (.int .u8 (1)), (.int .u8 (0)), (.int .u8 (0)), (.int .u8 (0)), (.int .u8 (0)), (.int .u8 (0)), (.int .u8 (0)), (.int .u8 (0)), (.int .u8 (0)), (.int .u8 (0)), (.int .u8 (0)), (.int .u8 (0)), (.int .u8 (0)), (.int .u8 (0)), (.int .u8 (0)), (.int .u8 (0)), (.int .u8 (0)), (.int .u8 (0)), (.int .u8 (0)), (.int .u8 (1)), (.int .u8 (0)), (.int .u8 (0)), (.int .u8 (0)), (.int .u8 (0)), (.int .u8 (0)), (.int .u8 (0)), (.int .u8 (0)), (.int .u8 (0)), (.int .u8 (0)), (.int .u8 (0)), (.int .u8 (0)), (.int .u8 (0)), (.int .u8 (0)), (.int .u8 (0)), (.int .u8 (0)), (.int .u8 (0)), (.int .u8 (0)), (.int .u8 (0)), (.int .u8 (0)), (.int .u8 (0)), (.int .u8 (0)), (.int .u8 (0)), (.int .u8 (0)), (.int .u8 (0)), (.int .u8 (0)), (.int .u8 (0)), (.int .u8 (0)), (.int .u8 (0)), (.int .u8 (0)), (.int .u8 (0)), (.int .u8 (0)), (.int .u8 (0)), (.int .u8 (0)), (.int .u8 (0)), (.int .u8 (0)), (.int .u8 (0)), (.int .u8 (0)), (.int .u8 (0)), (.int .u8 (0)), (.int .u8 (0)), (.int .u8 (0)), (.int .u8 (0)), (.int .u8 (0)), (.int .u8 (0)), (.int .u8 (0)), (.int .u8 (0)), (.int .u8 (0)), (.int .u8 (0)), (.int .u8 (0)), (.int .u8 (0)), (.int .u8 (0)), (.int .u8 (0)), (.int .u8 (0)), (.int .u8 (0)), (.int .u8 (0)), (.int .u8 (0)), (.int .u8 (0)), (.int .u8 (0)), (.int .u8 (0)), (.int .u8 (0)), (.int .u8 (0)), (.int .u8 (0)), (.int .u8 (0)), (.int .u8 (0)), (.int .u8 (0)), (.int .u8 (0)), (.int .u8 (0)), (.int .u8 (0)), (.int .u8 (0)), (.int .u8 (0)), (.int .u8 (0)), (.int .u8 (0)), (.int .u8 (0)), (.int .u8 (0)), (.int .u8 (0)), (.int .u8 (0)), (.int .u8 (0)), (.int .u8 (0)), (.int .u8 (0)), (.int .u8 (0)), (.int .u8 (0)), (.int .u8 (0)), (.int .u8 (0)), (.int .u8 (0)), (.int .u8 (0)), (.int .u8 (0)), (.int .u8 (0)), (.int .u8 (0)), (.int .u8 (0)), (.int .u8 (0)), (.int .u8 (0)), (.int .u8 (0)), (.int .u8 (0)), (.int .u8 (0)), (.int .u8 (0)), (.int .u8 (0)), (.int .u8 (0)), (.int .u8 (0)), (.int .u8 (0)), (.int .u8 (0)), (.int .u8 (0)), (.int .u8 (0)), (.int .u8 (0)), (.int .u8 (0)), (.int .u8 (0)), (.int .u8 (0)), (.int .u8 (0)), (.int .u8 (0)), (.int .u8 (0)), (.int .u8 (0)), (.int .u8 (0)), (.int .u8 (0)), (.int .u8 (0)), (.int .u8 (0)), (.int .u8 (0)), (.int .u8 (0)), (.int .u8 (0)), (.int .u8 (0)), (.int .u8 (0)), (.int .u8 (0)), (.int .u8 (0)), (.int .u8 (0)), (.int .u8 (0)), (.int .u8 (0)), (.int .u8 (0)), (.int .u8 (0)), (.int .u8 (0)), (.int .u8 (0)), (.int .u8 (0)), (.int .u8 (0)), (.int .u8 (0)), (.int .u8 (0)), (.int .u8 (0)), (.int .u8 (0)), (.int .u8 (0)), (.int .u8 (0)), (.int .u8 (0)), (.int .u8 (0)), (.int .u8 (0)), (.int .u8 (0)), (.int .u8 (0)), (.int .u8 (0)), (.int .u8 (0)), (.int .u8 (0)), (.int .u8 (0)), (.int .u8 (0)), (.int .u8 (0)), (.int .u8 (0)), (.int .u8 (0)), (.int .u8 (0)), (.int .u8 (0)), (.int .u8 (0)), (.int .u8 (0)), (.int .u8 (0)), (.int .u8 (0)), (.int .u8 (0)), (.int .u8 (0)), (.int .u8 (0)), (.int .u8 (0)), (.int .u8 (0)), (.int .u8 (0)), (.int .u8 (0)), (.int .u8 (0)), (.int .u8 (0)), (.int .u8 (0)), (.int .u8 (0)), (.int .u8 (0)), (.int .u8 (0)), (.int .u8 (0)), (.int .u8 (0)), (.int .u8 (0)), (.int .u8 (0)), (.int .u8 (0)), (.int .u8 (0)), (.int .u8 (0)), (.int .u8 (0)), (.int .u8 (0)), (.int .u8 (0)), (.int .u8 (0)), (.int .u8 (0)), (.int .u8 (0)), (.int .u8 (0)), (.int .u8 (0)), (.int .u8 (0)), (.int .u8 (0)), (.int .u8 (0)), (.int .u8 (0)), (.int .u8 (0)), (.int .u8 (0)), (.int .u8 (0)), (.int .u8 (0)), (.int .u8 (0)), (.int .u8 (0)), (.int .u8 (0)), (.int .u8 (0)), (.int .u8 (0)), (.int .u8 (0)), (.int .u8 (0)), (.int .u8 (0)), (.int .u8 (0)), (.int .u8 (0)), (.int .u8 (0)), (.int .u8 (0)), (.int .u8 (0)), (.int .u8 (0)), (.int .u8 (0)), (.int .u8 (0)), (.int .u8 (0)), (.int .u8 (0)), (.int .u8 (0)), (.int .u8 (0)), (.int .u8 (0)), (.int .u8 (0)), (.int .u8 (0)), (.int .u8 (0)), (.int .u8 (0)), (.int .u8 (0)), (.int .u8 (0)), (.int .u8 (0)), (.int .u8 (0)), (.int .u8 (0)), (.int .u8 (0)), (.int .u8 (0))]) (.node none (.node none .leaf .leaf) .leaf) (.node none (.node none .leaf .leaf) .leaf)))
noncomputable def vI : Tr (List Nat) := (.node none (.node none (.node none (.node none (.node (some [27]) (.node none (.node none (.node none .leaf .leaf) (.node none .leaf .leaf)) (.node (some [24]) (.node none .leaf .leaf) .leaf)) (.node none (.node none (.node none .leaf .leaf) .leaf) (.node none (.node none .leaf .leaf) .leaf))) (.node none (.node none (.node none (.node none .leaf .leaf) .leaf) (.node none (.node none .leaf .leaf) .leaf)) (.node none (.node none (.node none .leaf .leaf) .leaf) (.node none (.node none .leaf .leaf) .leaf)))) (.node (some [27]) (.node (some [27]) (.node none (.node none (.node none .leaf .leaf) .leaf) (.node none (.node none .leaf .leaf) .leaf)) (.node none (.node none (.node none .leaf .leaf) .leaf) (.node none (.node none .leaf .leaf) .leaf))) (.node none (.node none (.node none (.node none .leaf .leaf) .leaf) (.node none (.node none .leaf .leaf) .leaf)) (.node none (.node none (.node none .leaf .leaf) .leaf) (.node none (.node none .leaf .leaf) .leaf))))) (.node (some [27]) (.node none (.node (some [27]) (.node none (.node none (.node none .leaf .leaf) (.node none .leaf .leaf)) (.node none (.node none .leaf .leaf) .leaf)) (.node none (.node none (.node none .leaf .leaf) .leaf) (.node none (.node none .leaf .leaf) .leaf))) (.node none (.node none (.node none (.node none .leaf .leaf) .leaf) (.node none (.node none .leaf .leaf) .leaf)) (.node none (.node none (.node none .leaf .leaf) .leaf) (.node none (.node none .leaf .leaf) .leaf)))) (.node (some [27]) (.node (some [27]) (.node none (.node none (.node none .leaf .leaf) .leaf) (.node none (.node none .leaf .leaf) .leaf)) (.node none (.node none (.node none .leaf .leaf) .leaf) (.node none (.node none .leaf .leaf) .leaf))) (.node none (.node none (.node none (.node none .leaf .leaf) .leaf) (.node none (.node none .leaf .leaf) .leaf)) (.node none (.node none (.node none .leaf .leaf) .leaf) (.node none (.node none .leaf .leaf) .leaf)))))) (.node none (.node none (.node none (.node (some [27]) (.node none (.node none (.node none .leaf .leaf) (.node none .leaf .leaf)) (.node none (.node none .leaf .leaf) .leaf)) (.node none (.node none (.node none .leaf .leaf) .leaf) (.node none (.node none .leaf .leaf) .leaf))) (.node none (.node none (.node none (.node none .leaf .leaf) .leaf) (.node none (.node none .leaf .leaf) .leaf)) (.node (some [24]) (.node none (.node none .leaf .leaf) .leaf) (.node none (.node none .leaf .leaf) .leaf)))) (.node (some [27]) (.node none (.node none (.node none (.node none .leaf .leaf) .leaf) (.node none (.node none .leaf .leaf) .leaf)) (.node none (.node none (.node none .leaf .leaf) .leaf) (.node none (.node none .leaf .leaf) .leaf))) (.node (some [27]) (.node none (.node none (.node none .leaf .leaf) .leaf) (.node none (.node none .leaf .leaf) .leaf)) (.node none (.node none (.node none .leaf .leaf) .leaf) (.node none (.node none .leaf .leaf) .leaf))))) (.node none (.node none (.node (some [27]) (.node none (.node none (.node none .leaf .leaf) .leaf) (.node none (.node none .leaf .leaf) .leaf)) (.node none (.node none (.node none .leaf .leaf) .leaf) (.node none (.node none .leaf .leaf) .leaf))) (.node none (.node none (.node none (.node none .leaf .leaf) .leaf) (.node none (.node none .leaf .leaf) .leaf)) (.node none (.node none (.node none .leaf .leaf) .leaf) (.node none (.node none .leaf .leaf) .leaf)))) (.node none (.node (some [27]) (.node none (.node none (.node none .leaf .leaf) .leaf) (.node none (.node none .leaf .leaf) .leaf)) (.node none (.node none (.node none .leaf .leaf) .leaf) (.node none (.node none .leaf .leaf) .leaf))) (.node none (.node none (.node none (.node none .leaf .leaf) .leaf) (.node none (.node none .leaf .leaf) .leaf)) (.node none (.node none (.node none .leaf .leaf) .leaf) (.node none (.node none .leaf .leaf) .leaf)))))))
noncomputable def vfull : List Nat := []
noncomputable def vlook : List Nat := []
theorem prim48 : OnePrim Tryz.prog vT (fun b => vG.get b) 48 (.lib libValid) := valid_prim (g3 := 0) (g4 := 1) Tryz.call48 (fun s w h hT => Tryz.utf8_ValidString s w h hT) rfl rfl (by kernel_rfl) (by kernel_rfl)
theorem prim52 : OnePrim Tryz.prog vT (fun b => vG.get b) 52 (.lib (libAtoi 121)) := atoi_prim (g16 := 5) (fun w w' h => by rcases h with rfl | ⟨t, rfl⟩; exact Go.RowKit.Below.refl _ _; exact Lib.bytesWorld_below _ _ _) Tryz.call52 (fun s h1 v h2 w => Tryz.strconv_Atoi_ok s h1 v h2 w) (fun s h1 h2 ev w h3 h4 => (Tryz.strconv_Atoi_range s h1 h2 ev w h3 h4).mono fun e w' ⟨N, e1, _, _, e2⟩ => ⟨N, e1, e2⟩) rfl
theorem prim79 : OnePrim Tryz.prog vT (fun b => vG.get b) 79 (.lib libTrimLeft) := trimLeft_prim Tryz.call79 fun s c w h1 h2 => Tryz.strings_TrimLeft s c w h1 h2
theorem prim86 : OnePrim Tryz.prog vT (fun b => vG.get b) 86 (.lib libDecode) := decode_prim (g3 := 0) (g4 := 1) Tryz.call86 (fun s w hT => Tryz.utf8_DecodeRuneInString s w hT) rfl rfl (by kernel_rfl) (by kernel_rfl)
theorem prim112 : OnePrim Tryz.prog vT (fun b => vG.get b) 112 .indexByte := indexByte_prim (fun s c w => by
  rw [run_callFunc_extern Tryz.func112 (by kernel_rfl) (by kernel_rfl) (by kernel_rfl) (e := Extern.BytealgIndexByte.indexByte) (by kernel_rfl), Lib.run_indexByteString]
  rfl)
theorem vP_ok : Tr.Every (fun f q => OnePrim Tryz.prog vT (fun b => vG.get b) f q) vP := (Tr.every_node noPrim (Tr.every_node noPrim (Tr.every_node noPrim (Tr.every_node noPrim (Tr.every_node noPrim (Tr.every_node noPrim (Tr.every_node noPrim (Tr.every_node noPrim Tr.every_leaf Tr.every_leaf) (Tr.every_node noPrim Tr.every_leaf Tr.every_leaf)) (Tr.every_node noPrim (Tr.every_node noPrim Tr.every_leaf Tr.every_leaf) Tr.every_leaf)) (Tr.every_node noPrim (Tr.every_node (onePrim prim79) (Tr.every_node noPrim Tr.every_leaf Tr.every_leaf) Tr.every_leaf) (Tr.every_node noPrim (Tr.every_node noPrim Tr.every_leaf Tr.every_leaf) Tr.every_leaf))) (Tr.every_node noPrim (Tr.every_node noPrim (Tr.every_node noPrim (Tr.every_node noPrim Tr.every_leaf Tr.every_leaf) Tr.every_leaf) (Tr.every_node noPrim (Tr.every_node noPrim Tr.every_leaf Tr.every_leaf) Tr.every_leaf)) (Tr.every_node noPrim (Tr.every_node noPrim (Tr.every_node noPrim Tr.every_leaf Tr.every_leaf) Tr.every_leaf) (Tr.every_node noPrim (Tr.every_node noPrim Tr.every_leaf Tr.every_leaf) Tr.every_leaf)))) (Tr.every_node noPrim (Tr.every_node noPrim (Tr.every_node noPrim (Tr.every_node noPrim (Tr.every_node noPrim Tr.every_leaf Tr.every_leaf) Tr.every_leaf) (Tr.every_node noPrim (Tr.every_node noPrim Tr.every_leaf Tr.every_leaf) Tr.every_leaf)) (Tr.every_node noPrim (Tr.every_node noPrim (Tr.every_node noPrim Tr.every_leaf Tr.every_leaf) Tr.every_leaf) (Tr.every_node noPrim (Tr.every_node noPrim Tr.every_leaf Tr.every_leaf) Tr.every_leaf))) (Tr.every_node noPrim (Tr.every_node noPrim (Tr.every_node noPrim (Tr.every_node noPrim Tr.every_leaf Tr.every_leaf) Tr.every_leaf) (Tr.every_node noPrim (Tr.every_node noPrim Tr.every_leaf Tr.every_leaf) Tr.every_leaf)) (Tr.every_node noPrim (Tr.every_node noPrim (Tr.every_node noPrim Tr.every_leaf Tr.every_leaf) Tr.every_leaf) (Tr.every_node noPrim (Tr.every_node noPrim Tr.every_leaf Tr.every_leaf) Tr.every_leaf))))) (Tr.every_node noPrim (Tr.every_node noPrim (Tr.every_node noPrim (Tr.every_node noPrim (Tr.every_node noPrim (Tr.every_node noPrim Tr.every_leaf Tr.every_leaf) (Tr.every_node noPrim Tr.every_leaf Tr.every_leaf)) (Tr.every_node noPrim (Tr.every_node noPrim Tr.every_leaf Tr.every_leaf) Tr.every_leaf)) (Tr.every_node noPrim (Tr.every_node noPrim (Tr.every_node noPrim Tr.every_leaf Tr.every_leaf) Tr.every_leaf) (Tr.every_node noPrim (Tr.every_node noPrim Tr.every_leaf Tr.every_leaf) Tr.every_leaf))) (Tr.every_node noPrim (Tr.every_node noPrim (Tr.every_node noPrim (Tr.every_node noPrim Tr.every_leaf Tr.every_leaf) Tr.every_leaf) (Tr.every_node noPrim (Tr.every_node noPrim Tr.every_leaf Tr.every_leaf) Tr.every_leaf)) (Tr.every_node noPrim (Tr.every_node noPrim (Tr.every_node noPrim Tr.every_leaf Tr.every_leaf) Tr.every_leaf) (Tr.every_node noPrim (Tr.every_node noPrim Tr.every_leaf Tr.every_leaf) Tr.every_leaf)))) (Tr.every_node noPrim (Tr.every_node noPrim (Tr.every_node noPrim (Tr.every_node noPrim (Tr.every_node noPrim Tr.every_leaf Tr.every_leaf) Tr.every_leaf) (Tr.every_node noPrim (Tr.every_node noPrim Tr.every_leaf Tr.every_leaf) Tr.every_leaf)) (Tr.every_node noPrim (Tr.every_node noPrim (Tr.every_node noPrim Tr.every_leaf Tr.every_leaf) Tr.every_leaf) (Tr.every_node noPrim (Tr.every_node noPrim Tr.every_leaf Tr.every_leaf) Tr.every_leaf))) (Tr.every_node noPrim (Tr.every_node noPrim (Tr.every_node noPrim (Tr.every_node noPrim Tr.every_leaf Tr.every_leaf) Tr.every_leaf) (Tr.every_node noPrim (Tr.every_node noPrim Tr.every_leaf Tr.every_leaf) Tr.every_leaf)) (Tr.every_node noPrim (Tr.every_node noPrim (Tr.every_node noPrim Tr.every_leaf Tr.every_leaf) Tr.every_leaf) (Tr.every_node noPrim (Tr.every_node noPrim Tr.every_leaf Tr.every_leaf) Tr.every_leaf)))))) (Tr.every_node noPrim (Tr.every_node noPrim (Tr.every_node noPrim (Tr.every_node noPrim (Tr.every_node noPrim (Tr.every_node noPrim (Tr.every_node noPrim Tr.every_leaf Tr.every_leaf) (Tr.every_node noPrim Tr.every_leaf Tr.every_leaf)) (Tr.every_node noPrim (Tr.every_node noPrim Tr.every_leaf Tr.every_leaf) Tr.every_leaf)) (Tr.every_node (onePrim prim48) (Tr.every_node noPrim (Tr.every_node noPrim Tr.every_leaf Tr.every_leaf) Tr.every_leaf) (Tr.every_node (onePrim prim112) (Tr.every_node noPrim Tr.every_leaf Tr.every_leaf) Tr.every_leaf))) (Tr.every_node noPrim (Tr.every_node noPrim (Tr.every_node noPrim (Tr.every_node noPrim Tr.every_leaf Tr.every_leaf) Tr.every_leaf) (Tr.every_node noPrim (Tr.every_node noPrim Tr.every_leaf Tr.every_leaf) Tr.every_leaf)) (Tr.every_node noPrim (Tr.every_node noPrim (Tr.every_node noPrim Tr.every_leaf Tr.every_leaf) Tr.every_leaf) (Tr.every_node noPrim (Tr.every_node noPrim Tr.every_leaf Tr.every_leaf) Tr.every_leaf)))) (Tr.every_node noPrim (Tr.every_node noPrim (Tr.every_node noPrim (Tr.every_node noPrim (Tr.every_node noPrim Tr.every_leaf Tr.every_leaf) Tr.every_leaf) (Tr.every_node noPrim (Tr.every_node noPrim Tr.every_leaf Tr.every_leaf) Tr.every_leaf)) (Tr.every_node (onePrim prim52) (Tr.every_node noPrim (Tr.every_node noPrim Tr.every_leaf Tr.every_leaf) Tr.every_leaf) (Tr.every_node noPrim (Tr.every_node noPrim Tr.every_leaf Tr.every_leaf) Tr.every_leaf))) (Tr.every_node noPrim (Tr.every_node noPrim (Tr.every_node noPrim (Tr.every_node noPrim Tr.every_leaf Tr.every_leaf) Tr.every_leaf) (Tr.every_node noPrim (Tr.every_node noPrim Tr.every_leaf Tr.every_leaf) Tr.every_leaf)) (Tr.every_node noPrim (Tr.every_node noPrim (Tr.every_node noPrim Tr.every_leaf Tr.every_leaf) Tr.every_leaf) (Tr.every_node noPrim (Tr.every_node noPrim Tr.every_leaf Tr.every_leaf) Tr.every_leaf))))) (Tr.every_node noPrim (Tr.every_node noPrim (Tr.every_node noPrim (Tr.every_node noPrim (Tr.every_node noPrim (Tr.every_node noPrim Tr.every_leaf Tr.every_leaf) Tr.every_leaf) (Tr.every_node noPrim (Tr.every_node noPrim Tr.every_leaf Tr.every_leaf) Tr.every_leaf)) (Tr.every_node noPrim (Tr.every_node noPrim (Tr.every_node noPrim Tr.every_leaf Tr.every_leaf) Tr.every_leaf) (Tr.every_node noPrim (Tr.every_node noPrim Tr.every_leaf Tr.every_leaf) Tr.every_leaf))) (Tr.every_node noPrim (Tr.every_node noPrim (Tr.every_node noPrim (Tr.every_node noPrim Tr.every_leaf Tr.every_leaf) Tr.every_leaf) (Tr.every_node noPrim (Tr.every_node noPrim Tr.every_leaf Tr.every_leaf) Tr.every_leaf)) (Tr.every_node noPrim (Tr.every_node noPrim (Tr.every_node noPrim Tr.every_leaf Tr.every_leaf) Tr.every_leaf) (Tr.every_node noPrim (Tr.every_node noPrim Tr.every_leaf Tr.every_leaf) Tr.every_leaf)))) (Tr.every_node noPrim (Tr.every_node noPrim (Tr.every_node noPrim (Tr.every_node noPrim (Tr.every_node noPrim Tr.every_leaf Tr.every_leaf) Tr.every_leaf) (Tr.every_node noPrim (Tr.every_node noPrim Tr.every_leaf Tr.every_leaf) Tr.every_leaf)) (Tr.every_node noPrim (Tr.every_node (onePrim prim86) (Tr.every_node noPrim Tr.every_leaf Tr.every_leaf) Tr.every_leaf) (Tr.every_node noPrim (Tr.every_node noPrim Tr.every_leaf Tr.every_leaf) Tr.every_leaf))) (Tr.every_node noPrim (Tr.every_node noPrim (Tr.every_node noPrim (Tr.every_node noPrim Tr.every_leaf Tr.every_leaf) Tr.every_leaf) (Tr.every_node noPrim (Tr.every_node noPrim Tr.every_leaf Tr.every_leaf) Tr.every_leaf)) (Tr.every_node noPrim (Tr.every_node noPrim (Tr.every_node noPrim Tr.every_leaf Tr.every_leaf) Tr.every_leaf) (Tr.every_node noPrim (Tr.every_node noPrim Tr.every_leaf Tr.every_leaf) Tr.every_leaf)))))))
noncomputable def vE : Env where
  T := vT
  F i := vF.get i
  prim i := vP.get i
  full i := vfull.any fun j => i.beq j
  isLook i := vlook.any fun j => i.beq j
  imm f t := match vI.get f with
    | some l => l.any fun j => t.beq j
    | none => false
  G b := vG.get b
  memo _ := []
theorem vE_ok : EnvOk Tryz.prog vE := ⟨vT_ok, fun f fn h => Tr.every_get vF _ vF_ok f fn h, primOk_of fun f q h => Tr.every_get vP _ vP_ok f q h, by kernel_rfl, (fun _ _ h => by cases h), fun _ r _ _ h _ => absurd (show (none : Option (List AV → Option AV)) = some r from h) (by simp)⟩
end Go.Proofs.YtkodpnfdmgbfnaaGreatDoor.Vm
set_option maxRecDepth 1000000
set_option maxHeartbeats 0
namespace Go.Proofs.YtkodpnfdmgbfnaaGreatDoor.Vm
open Go Go.VM Go.Proofs
/-- rostrum/rostrumlaw12.ParseBlanks -/
noncomputable def g3 : AV → AV → Option AV := fun x0 x1 => asS x0 fun l0 => asI .u8 x1 fun n1 => bindO (ifB (decide ((↑(List.length l0) : Int) > 3000)) (some ([AV.bool true], St.mk 0 0 Tr.leaf)) (callS (orc vE) 9 []
 (St.mk 0 0 Tr.leaf) fun v2 st3 _x => asB v2 fun b5 => some ([AV.bool !b5], st3))) fun c6 => unc (Prod.fst c6) fun v7 l8 => asB v7 fun b9 => un0 l8 (ifB b9 (callS (orc vE) 9 [] (Prod.snd c6) fun v10 _x _x_1 => asB v10
 fun b13 => some (AV.bool b13)) (callS (orc vE) 10 [AV.str l0] (Prod.snd c6) fun v14 st15 _x => unT v14 fun l17 => nthS l17 0 fun v18 => unA v18 fun l20 => unc l20 fun v21 l22 => asI .u8 v21 fun n23 => unc l22 fun v24
 l25 => asI .u8 v24 fun n26 => unc l25 fun v27 l28 => asS v27 fun l29 => unc l28 fun v30 l31 => un0 l31 (unT v14 fun l32 => nthS l32 1 fun v33 => asI .i64 v33 fun n34 => letSt (St.add st15 (VM.Obj.cells 27 [AV.int .u8 0,
 AV.int .u8 0, AV.str [], AV.nils])) fun st35 => asOne v30 (storeS (orc vE) 4 (AV.mp (St.h st15) 0) (AV.agg [AV.int .u8 n23, AV.int .u8 n26, AV.str l29, v30]) [AV.int .u8 n23, AV.int .u8 n26, AV.str l29, v30] st35 fun _x
 st37 _x_1 => bindO (ifB (n34 != 0) (some ([AV.bool true], st37)) (loadS 4 true (AV.mp (St.h st15) 0) st37 fun v39 _x => unA v39 fun l42 => unc l42 fun v43 l44 => asI .u8 v43 fun n45 => unc l44 fun v46 l47 => asI .u8 v46
 fun n48 => unc l47 fun v49 l50 => asS v49 fun l51 => unc l50 fun v52 l53 => un0 l53 (callS (orc vE) 11 [AV.agg [AV.int .u8 n45, AV.int .u8 n48, AV.str l51, v52]] st37 fun v54 st55 _x => asB v54 fun b57 => some ([AV.bool
 b57], st55)))) fun c58 => unc (Prod.fst c58) fun v59 l60 => asB v59 fun b61 => un0 l60 (ifB b61 (some (AV.bool true)) (letV (Int.tmod n1 4) fun n62 => idxA 1 (AV.sl 1 [AV.str [32], AV.str [10], AV.str [9, 32, 13, 10],
 AV.str [32, 32, 32, 32]] Perm.shut) n62 (Prod.snd c58) fun v63 _x => loadS 1 false v63 (Prod.snd c58) fun v65 _x => asS v65 fun l67 => loadS 4 true (AV.mp (St.h st15) 0) (Prod.snd c58) fun v68 _x => unA v68 fun l71 =>
 unc l71 fun v72 l73 => asI .u8 v72 fun n74 => unc l73 fun v75 l76 => asI .u8 v75 fun n77 => unc l76 fun v78 l79 => asS v78 fun l80 => unc l79 fun v81 l82 => un0 l82 (callS (orc vE) 12 [AV.agg [AV.int .u8 n74, AV.int .u8
 n77, AV.str l80, v81], AV.str l67] (Prod.snd c58) fun v83 st84 _x => asS v83 fun l86 => callS (orc vE) 10 [AV.str l86] st84 fun v87 st88 _x => unT v87 fun l90 => nthS l90 0 fun v91 => unA v91 fun l93 => unc l93 fun v94
 l95 => asI .u8 v94 fun n96 => unc l95 fun v97 l98 => asI .u8 v97 fun n99 => unc l98 fun v100 l101 => asS v100 fun l102 => unc l101 fun v103 l104 => un0 l104 (unT v87 fun l105 => nthS l105 1 fun v106 => asI .i64 v106 fun
 n107 => letSt (St.add st88 (VM.Obj.cells 27 [AV.int .u8 0, AV.int .u8 0, AV.str [], AV.nils])) fun st108 => asOne v103 (storeS (orc vE) 4 (AV.mp (St.h st88) 0) (AV.agg [AV.int .u8 n96, AV.int .u8 n99, AV.str l102,
 v103]) [AV.int .u8 n96, AV.int .u8 n99, AV.str l102, v103] st108 fun _x st110 _x_2 => bindO (ifB (n107 == 40) (some ([AV.bool true], st110)) (ifB (n107 == 0) (loadS 4 true (AV.mp (St.h st15) 0) st110 fun v112 _x => unA
 v112 fun l115 => unc l115 fun v116 l117 => asI .u8 v116 fun n118 => unc l117 fun v119 l120 => asI .u8 v119 fun n121 => unc l120 fun v122 l123 => asS v122 fun l124 => unc l123 fun v125 l126 => un0 l126 (callS (orc vE) 13
 [AV.agg [AV.int .u8 n118, AV.int .u8 n121, AV.str l124, v125]] st110 fun v127 st128 x129 => asS v127 fun l130 => loadS 4 true (AV.mp (St.h st88) 0) st128 fun v131 l132 => unA v131 fun l134 => unc l134 fun v135 l136 =>
 asI .u8 v135 fun n137 => unc l136 fun v138 l139 => asI .u8 v138 fun n140 => unc l139 fun v141 l142 => asS v141 fun l143 => unc l142 fun v144 l145 => un0 l145 (chk (apart x129 (Fx.mk l132 Did.kept) && true) (callS (orc
 vE) 13 [AV.agg [AV.int .u8 n137, AV.int .u8 n140, AV.str l143, v144]] st128 fun v146 st147 _x => asS v146 fun l149 => some ([AV.bool (l130 == l149)], st147))))) (some ([AV.bool false], st110)))) fun c150 => unc
 (Prod.fst c150) fun v151 l152 => asB v151 fun b153 => un0 l152 (some (AV.bool b153)))))))))))
theorem g3_eq (x0 x1 : AV) : bareS vE 3 [x0, x1] = g3 x0 x1 := by kernel_rfl
/-- rostrum/rostrumlaw12.ParseGood -/
noncomputable def g5 : AV → Option AV := fun x0 => unA x0 fun l1 => unc l1 fun v2 l3 => asI .u8 v2 fun n4 => unc l3 fun v5 l6 => asI .u8 v5 fun n7 => unc l6 fun v8 l9 => asS v8 fun l10 => unc l9 fun v11 l12 => un0 l12
 (asOne v11 (fit1 v11 fun v13 => callS (orc vE) 19 [AV.agg [AV.int .u8 n4, AV.int .u8 n7, AV.str l10, v13], AV.int .i64 2000] (St.mk 0 0 Tr.leaf) fun v15 st16 _x => asI .i64 v15 fun n18 => ifB (decide (n18 ≥ 2000))
 (callS (orc vE) 9 [] st16 fun v19 _x _x_1 => asB v19 fun b22 => some (AV.bool b22)) (bindO (callS (orc vE) 16 [AV.agg [AV.int .u8 n4, AV.int .u8 n7, AV.str l10, v13]] st16 fun v24 st25 x26 => asB v24 fun b27 => chk
 (apart x26 (Fx.mk [] Did.kept) && true) (callS (orc vE) 17 [AV.agg [AV.int .u8 n4, AV.int .u8 n7, AV.str l10, v13]] st25 fun v29 st30 _x => asB v29 fun b32 => ifB (b27 == b32) (callS (orc vE) 9 [] st30 fun v33 st34 _x
 => asB v33 fun b36 => some ([AV.bool b36], st34)) (some ([AV.bool false], st30)))) fun c37 => unc (Prod.fst c37) fun v38 l39 => asB v38 fun b40 => un0 l39 (some (AV.bool b40)))))
/-- rostrum/rostrumlaw12.awake -/
noncomputable def g9 : Option AV := bindO (callS (orc vE) 20 [AV.str [108, 101, 116, 32, 120, 32, 61, 32, 49]] (St.mk 0 0 Tr.leaf) fun v0 st1 _x => asS v0 fun l3 => ifB (l3 == [40, 101, 32, 40, 102, 32, 108, 101, 116,
 32, 120, 32, 61, 32, 49, 41, 32, 41]) (callS (orc vE) 20 [AV.str [108, 101, 116, 32, 102, 32, 97, 32, 98, 32, 61, 32, 97, 32, 43, 32, 98, 32, 42, 32, 50]] st1 fun v4 st5 _x => asS v4 fun l7 => some ([AV.bool (l7 == [40,
 101, 32, 40, 102, 32, 108, 101, 116, 32, 102, 32, 97, 32, 98, 32, 61, 32, 40, 108, 32, 97, 32, 43, 32, 40, 108, 32, 98, 32, 42, 32, 50, 41, 41, 41, 32, 41])], st5)) (some ([AV.bool false], st1))) fun c8 => unc (Prod.fst
 c8) fun v9 l10 => asB v9 fun b11 => un0 l10 (some (AV.bool b11))
theorem g9_eq : bareS vE 9 [] = g9 := by kernel_rfl
/-- rostrum/parse.Parse -/
noncomputable def g10 : AV → Option AV := fun x0 => asS x0 fun l0 => callS (orc vE) 23 [AV.str l0] (St.mk 1 0 (Tr.node (some (VM.Obj.cells 27 [AV.int .u8 0, AV.int .u8 0, AV.str [], AV.nils])) Tr.leaf Tr.leaf)) fun v1
 st2 _x => unT v1 fun l4 => nthS l4 0 fun v5 => unT v1 fun l6 => nthS l6 1 fun v7 => asI .i64 v7 fun n8 => ifB (n8 != 0) (storeS (orc vE) 4 (AV.mp 0 0) (AV.agg [AV.int .u8 0, AV.int .u8 0, AV.str [], AV.nils]) [AV.int
 .u8 0, AV.int .u8 0, AV.str [], AV.nils] st2 fun _x st11 _x_1 => loadS 4 true (AV.mp 0 0) st11 fun v13 _x => unA v13 fun l16 => unc l16 fun v17 l18 => asI .u8 v17 fun n19 => unc l18 fun v20 l21 => asI .u8 v20 fun n22 =>
 unc l21 fun v23 l24 => asS v23 fun l25 => unc l24 fun v26 l27 => un0 l27 (frzS st11 0 (AV.tup [AV.agg [AV.int .u8 n19, AV.int .u8 n22, AV.str l25, v26], AV.int .i64 n8]) fun v28 => some v28)) (asOne v5 (asOne v5 (letSt
 (St.add st2 (VM.Obj.cells 51 [v5, AV.int .i64 0, AV.int .i64 0])) fun st30 => callS (orc vE) 24 [AV.mp (St.h st2) 0] st30 fun v31 st32 _x => unA v31 fun l35 => unc l35 fun v36 l37 => asI .u8 v36 fun n38 => unc l37 fun
 v39 l40 => asI .u8 v39 fun n41 => unc l40 fun v42 l43 => asS v42 fun l44 => unc l43 fun v45 l46 => un0 l46 (asOne v45 (storeS (orc vE) 4 (AV.mp 0 0) (AV.agg [AV.int .u8 n38, AV.int .u8 n41, AV.str l44, v45]) [AV.int .u8
 n38, AV.int .u8 n41, AV.str l44, v45] st32 fun _x st48 _x_1 => loadS 4 true (AV.mp 0 0) st48 fun v50 _x => unA v50 fun l53 => unc l53 fun v54 l55 => asI .u8 v54 fun n56 => unc l55 fun v57 l58 => asI .u8 v57 fun n59 =>
 unc l58 fun v60 l61 => asS v60 fun l62 => unc l61 fun v63 l64 => un0 l64 (frzS st48 0 (AV.tup [AV.agg [AV.int .u8 n56, AV.int .u8 n59, AV.str l62, v63], AV.int .i64 0]) fun v65 => some v65))))))
theorem g10_eq (x0 : AV) : bareS vE 10 [x0] = g10 x0 := by kernel_rfl
/-- rostrum/rostrumlaw12.bad -/
noncomputable def g11_L1 (v13 : AV) : Car → Option (Car ⊕ Nat × Car) := fun c18 => unc (Prod.fst c18) fun v19 l20 => asB v19 fun b21 => unc l20 fun v22 l23 => asI .i64 v22 fun n24 => un0 l23 (lenS v13 fun k25 => ifB
 (decide (n24 < (↑k25 : Int))) (idxA 4 v13 n24 (Prod.snd c18) fun v26 _x => loadS 4 true v26 (Prod.snd c18) fun v28 _x => unA v28 fun l31 => unc l31 fun v32 l33 => asI .u8 v32 fun n34 => unc l33 fun v35 l36 => asI .u8
 v35 fun n37 => unc l36 fun v38 l39 => asS v38 fun l40 => unc l39 fun v41 l42 => un0 l42 (callS (orc vE) 11 [AV.agg [AV.int .u8 n34, AV.int .u8 n37, AV.str l40, v41]] (Prod.snd c18) fun v43 st44 _x => asB v43 fun b46 =>
 ifB b46 (some (Sum.inr (1, [AV.bool true], st44))) (letV (IntKind.wrap .i64 (n24 + 1)) fun n47 => some (Sum.inl ([AV.bool b21, AV.int .i64 n47], st44))))) (some (Sum.inr (0, [AV.bool b21], Prod.snd c18))))
noncomputable def g11 : AV → Option AV := fun x0 => unA x0 fun l1 => unc l1 fun v2 l3 => asI .u8 v2 fun n4 => unc l3 fun v5 l6 => asI .u8 v5 fun n7 => unc l6 fun v8 l9 => asS v8 fun _x => unc l9 fun v11 l12 => un0 l12
 (asOne v11 (fit1 v11 fun v13 => bindO (ifB (n4 == 1) (some ([AV.bool (n7 == 9)], St.mk 0 0 Tr.leaf)) (some ([AV.bool false], St.mk 0 0 Tr.leaf))) fun c14 => unc (Prod.fst c14) fun v15 l16 => asB v15 fun b17 => un0 l16
 (ifB b17 (some (AV.bool true)) (bindO (loopO (g11_L1 v13) ([AV.bool false, AV.int .i64 0], Prod.snd c14)) fun c48 => unc (Prod.fst (Prod.snd c48)) fun v49 l50 => asB v49 fun b51 => un0 l50 (sel2 (Prod.fst c48) (some
 (AV.bool false)) fun _x => some (AV.bool b51))))))
theorem g11_eq (x0 : AV) : bareS vE 11 [x0] = g11 x0 := by kernel_rfl
/-- rostrum/rostrumlaw12.blanked -/
noncomputable def g12_L1 (l13 : List UInt8) (v14 : AV) : Car → Option (Car ⊕ Nat × Car) := fun c15 => unc (Prod.fst c15) fun v16 l17 => asS v16 fun l18 => unc l17 fun v19 l20 => asI .i64 v19 fun n21 => un0 l20 (lenS v14
 fun k22 => ifB (decide (n21 < (↑k22 : Int))) (bindO (idxA 4 v14 n21 (Prod.snd c15) fun v23 _x => loadS 4 true v23 (Prod.snd c15) fun v25 _x => unA v25 fun l28 => unc l28 fun v29 l30 => asI .u8 v29 fun n31 => unc l30 fun
 v32 l33 => asI .u8 v32 fun n34 => unc l33 fun v35 l36 => asS v35 fun l37 => unc l36 fun v38 l39 => un0 l39 (letSt (St.add (Prod.snd c15) (VM.Obj.cells 27 [AV.int .u8 0, AV.int .u8 0, AV.str [], AV.nils])) fun st40 =>
 asOne v38 (storeS (orc vE) 4 (AV.mp (St.h (Prod.snd c15)) 0) (AV.agg [AV.int .u8 n31, AV.int .u8 n34, AV.str l37, v38]) [AV.int .u8 n31, AV.int .u8 n34, AV.str l37, v38] st40 fun _x st42 _x_1 => bindO (loadS 1 false
 (AV.mp (St.h (Prod.snd c15)) 0) st42 fun v44 _x => asI .u8 v44 fun n46 => ifB (n46 == 1) (loadS 1 false (AV.mp (St.h (Prod.snd c15)) 1) st42 fun v47 _x => asI .u8 v47 fun n49 => some ([AV.bool (n49 == 1)], st42)) (some
 ([AV.bool false], st42))) fun c50 => unc (Prod.fst c50) fun v51 l52 => asB v51 fun b53 => un0 l52 (ifB b53 (chk (Nat.ble (List.length l18 + List.length l13) 9223372036854775807) (letV (l18 ++ l13) fun l54 => some
 (Sum.inl ([AV.str l54], Prod.snd c50)))) (loadS 4 true (AV.mp (St.h (Prod.snd c15)) 0) (Prod.snd c50) fun v55 _x => unA v55 fun l58 => unc l58 fun v59 l60 => asI .u8 v59 fun n61 => unc l60 fun v62 l63 => asI .u8 v62 fun
 n64 => unc l63 fun v65 l66 => asS v65 fun l67 => unc l66 fun v68 l69 => un0 l69 (callS (orc vE) 12 [AV.agg [AV.int .u8 n61, AV.int .u8 n64, AV.str l67, v68], AV.str l13] (Prod.snd c50) fun v70 st71 _x => asS v70 fun l73
 => chk (Nat.ble (List.length l18 + List.length l73) 9223372036854775807) (letV (l18 ++ l73) fun l74 => some (Sum.inl ([AV.str l74], st71))))))))) fun c75 => onSum c75 fun c76 => unc (Prod.fst c76) fun v77 l78 => asS v77
 fun l79 => un0 l78 (letV (IntKind.wrap .i64 (n21 + 1)) fun n80 => some (Sum.inl ([AV.str l79, AV.int .i64 n80], Prod.snd c76)))) (some (Sum.inr (0, [AV.str l18], Prod.snd c15))))
noncomputable def g12 : AV → AV → Option AV := fun x0 x1 => unA x0 fun l1 => unc l1 fun v2 l3 => asI .u8 v2 fun n4 => unc l3 fun v5 l6 => asI .u8 v5 fun _x => unc l6 fun v8 l9 => asS v8 fun l10 => unc l9 fun v11 l12 =>
 un0 l12 (asS x1 fun l13 => asOne v11 (fit1 v11 fun v14 => bindO (loopO (g12_L1 l13 v14) ([AV.str [], AV.int .i64 0], St.mk 0 0 Tr.leaf)) fun c81 => unc (Prod.fst (Prod.snd c81)) fun v82 l83 => asS v82 fun l84 => un0 l83
 (bindO (ifB (n4 == 1) (chk (Nat.ble (List.length l84 + List.length l10) 9223372036854775807) (letV (l84 ++ l10) fun l85 => some ([AV.str l85], Prod.snd (Prod.snd c81)))) (some ([AV.str l84], Prod.snd (Prod.snd c81))))
 fun c86 => unc (Prod.fst c86) fun v87 l88 => asS v87 fun l89 => un0 l88 (some (AV.str l89)))))
theorem g12_eq (x0 x1 : AV) : bareS vE 12 [x0, x1] = g12 x0 x1 := by kernel_rfl
/-- rostrum/rostrumlaw12.shape -/
noncomputable def g13_L1 (v13 : AV) : Car → Option (Car ⊕ Nat × Car) := fun c18 => unc (Prod.fst c18) fun v19 l20 => asS v19 fun l21 => unc l20 fun v22 l23 => asI .i64 v22 fun n24 => un0 l23 (lenS v13 fun k25 => ifB
 (decide (n24 < (↑k25 : Int))) (chk (Nat.ble ((List.length l21 + 1)) 9223372036854775807) (letV (l21 ++ [32]) fun l26 => idxA 4 v13 n24 (Prod.snd c18) fun v27 _x => loadS 4 true v27 (Prod.snd c18) fun v29 _x => unA v29
 fun l32 => unc l32 fun v33 l34 => asI .u8 v33 fun n35 => unc l34 fun v36 l37 => asI .u8 v36 fun n38 => unc l37 fun v39 l40 => asS v39 fun l41 => unc l40 fun v42 l43 => un0 l43 (callS (orc vE) 13 [AV.agg [AV.int .u8 n35,
 AV.int .u8 n38, AV.str l41, v42]] (Prod.snd c18) fun v44 st45 _x => asS v44 fun l47 => chk (Nat.ble (List.length l26 + List.length l47) 9223372036854775807) (letV (l26 ++ l47) fun l48 => letV (IntKind.wrap .i64 (n24 +
 1)) fun n49 => some (Sum.inl ([AV.str l48, AV.int .i64 n49], st45)))))) (some (Sum.inr (0, [AV.str l21], Prod.snd c18))))
noncomputable def g13 : AV → Option AV := fun x0 => unA x0 fun l1 => unc l1 fun v2 l3 => asI .u8 v2 fun n4 => unc l3 fun v5 l6 => asI .u8 v5 fun _x => unc l6 fun v8 l9 => asS v8 fun l10 => unc l9 fun v11 l12 => un0 l12
 (asOne v11 (fit1 v11 fun v13 => ifB (n4 == 1) (some (AV.str l10)) (ifB (n4 == 2) (chk (Nat.ble (1 + List.length l10) 9223372036854775807) (letV (63 :: l10) fun l14 => some (AV.str l14))) (letV (IntKind.wrap .u8 (97 +
 n4)) fun n15 => letV [UInt8.ofNat (Int.toNat n15)] fun l16 => chk (Nat.ble (1 + List.length l16) 9223372036854775807) (letV (40 :: l16) fun l17 => bindO (loopO (g13_L1 v13) ([AV.str l17, AV.int .i64 0], St.mk 0 0
 Tr.leaf)) fun c50 => unc (Prod.fst (Prod.snd c50)) fun v51 l52 => asS v51 fun l53 => un0 l52 (chk (Nat.ble ((List.length l53 + 1)) 9223372036854775807) (letV (l53 ++ [41]) fun l54 => some (AV.str l54))))))))
theorem g13_eq (x0 : AV) : bareS vE 13 [x0] = g13 x0 := by kernel_rfl
/-- rostrum/rostrumref12.Same -/
noncomputable def g15_L1 (v26 : AV) (v27 : AV) : Car → Option (Car ⊕ Nat × Car) := fun c38 => unc (Prod.fst c38) fun v39 l40 => asB v39 fun b41 => unc l40 fun v42 l43 => asI .i64 v42 fun n44 => un0 l43 (lenS v26 fun k45
 => ifB (decide (n44 < (↑k45 : Int))) (idxA 4 v26 n44 (Prod.snd c38) fun v46 _x => loadS 4 true v46 (Prod.snd c38) fun v48 _x => unA v48 fun l51 => unc l51 fun v52 l53 => asI .u8 v52 fun n54 => unc l53 fun v55 l56 => asI
 .u8 v55 fun n57 => unc l56 fun v58 l59 => asS v58 fun l60 => unc l59 fun v61 l62 => un0 l62 (idxA 4 v27 n44 (Prod.snd c38) fun v63 _x => loadS 4 true v63 (Prod.snd c38) fun v65 _x => unA v65 fun l68 => unc l68 fun v69
 l70 => asI .u8 v69 fun n71 => unc l70 fun v72 l73 => asI .u8 v72 fun n74 => unc l73 fun v75 l76 => asS v75 fun l77 => unc l76 fun v78 l79 => un0 l79 (callS (orc vE) 15 [AV.agg [AV.int .u8 n54, AV.int .u8 n57, AV.str
 l60, v61], AV.agg [AV.int .u8 n71, AV.int .u8 n74, AV.str l77, v78]] (Prod.snd c38) fun v80 st81 _x => asB v80 fun b83 => ifB (!b83) (some (Sum.inr (1, [AV.bool false], st81))) (letV (IntKind.wrap .i64 (n44 + 1)) fun
 n84 => some (Sum.inl ([AV.bool b41, AV.int .i64 n84], st81)))))) (some (Sum.inr (0, [AV.bool b41], Prod.snd c38))))
noncomputable def g15 : AV → AV → Option AV := fun x0 x1 => unA x0 fun l1 => unc l1 fun v2 l3 => asI .u8 v2 fun n4 => unc l3 fun v5 l6 => asI .u8 v5 fun n7 => unc l6 fun v8 l9 => asS v8 fun l10 => unc l9 fun v11 l12 =>
 un0 l12 (unA x1 fun l14 => unc l14 fun v15 l16 => asI .u8 v15 fun n17 => unc l16 fun v18 l19 => asI .u8 v18 fun n20 => unc l19 fun v21 l22 => asS v21 fun l23 => unc l22 fun v24 l25 => un0 l25 (asOne v11 (fit1 v11 fun
 v26 => asOne v24 (fit1 v24 fun v27 => bindO (ifB (n4 != n17) (some ([AV.bool true], St.mk 0 0 Tr.leaf)) (bindO (toO (VM.binOp (Env.T vE) BinOp.neq 24 (AV.agg [AV.int .u8 n7, AV.str l10]) (AV.agg [AV.int .u8 n20, AV.str
 l23]))) fun v30 => asB v30 fun b31 => ifB b31 (some ([AV.bool true], St.mk 0 0 Tr.leaf)) (lenS v26 fun k32 => lenS v27 fun k33 => some ([AV.bool ((↑k32 : Int) != (↑k33 : Int))], St.mk 0 0 Tr.leaf)))) fun c34 => unc
 (Prod.fst c34) fun v35 l36 => asB v35 fun b37 => un0 l36 (ifB b37 (some (AV.bool false)) (bindO (loopO (g15_L1 v26 v27) ([AV.bool false, AV.int .i64 0], Prod.snd c34)) fun c85 => unc (Prod.fst (Prod.snd c85)) fun v86
 l87 => asB v86 fun b88 => un0 l87 (sel2 (Prod.fst c85) (some (AV.bool true)) fun _x => some (AV.bool b88))))))))
/-- rostrum/parse.Good -/
noncomputable def g16 : AV → Option AV := fun x0 => unA x0 fun l1 => unc l1 fun v2 l3 => asI .u8 v2 fun n4 => unc l3 fun v5 l6 => asI .u8 v5 fun n7 => unc l6 fun v8 l9 => asS v8 fun _x => unc l9 fun v11 l12 => un0 l12
 (asOne v11 (fit1 v11 fun v13 => bindO (ifB (n4 != 2) (ifB (n4 != 3) (ifB (n4 != 1) (some ([AV.bool true], St.mk 0 0 Tr.leaf)) (some ([AV.bool (n7 != 9)], St.mk 0 0 Tr.leaf))) (some ([AV.bool false], St.mk 0 0 Tr.leaf)))
 (some ([AV.bool false], St.mk 0 0 Tr.leaf))) fun c14 => unc (Prod.fst c14) fun v15 l16 => asB v15 fun b17 => un0 l16 (bindO (ifB b17 (callS (orc vE) 27 [v13, AV.fn (Fn.func 28) [] []] (Prod.snd c14) fun v18 st19 _x =>
 asB v18 fun b21 => some ([AV.bool !b21], st19)) (some ([AV.bool false], Prod.snd c14))) fun c22 => unc (Prod.fst c22) fun v23 l24 => asB v23 fun b25 => un0 l24 (some (AV.bool b25)))))
/-- rostrum/rostrumref12.Good -/
noncomputable def g17_L1 (v13 : AV) : Car → Option (Car ⊕ Nat × Car) := fun c18 => unc (Prod.fst c18) fun v19 l20 => asB v19 fun b21 => unc l20 fun v22 l23 => asI .i64 v22 fun n24 => un0 l23 (lenS v13 fun k25 => ifB
 (decide (n24 < (↑k25 : Int))) (idxA 4 v13 n24 (Prod.snd c18) fun v26 _x => loadS 4 true v26 (Prod.snd c18) fun v28 _x => unA v28 fun l31 => unc l31 fun v32 l33 => asI .u8 v32 fun n34 => unc l33 fun v35 l36 => asI .u8
 v35 fun n37 => unc l36 fun v38 l39 => asS v38 fun l40 => unc l39 fun v41 l42 => un0 l42 (callS (orc vE) 17 [AV.agg [AV.int .u8 n34, AV.int .u8 n37, AV.str l40, v41]] (Prod.snd c18) fun v43 st44 _x => asB v43 fun b46 =>
 ifB (!b46) (some (Sum.inr (1, [AV.bool false], st44))) (letV (IntKind.wrap .i64 (n24 + 1)) fun n47 => some (Sum.inl ([AV.bool b21, AV.int .i64 n47], st44))))) (some (Sum.inr (0, [AV.bool b21], Prod.snd c18))))
noncomputable def g17 : AV → Option AV := fun x0 => unA x0 fun l1 => unc l1 fun v2 l3 => asI .u8 v2 fun n4 => unc l3 fun v5 l6 => asI .u8 v5 fun n7 => unc l6 fun v8 l9 => asS v8 fun _x => unc l9 fun v11 l12 => un0 l12
 (asOne v11 (fit1 v11 fun v13 => bindO (ifB (n4 == 2) (some ([AV.bool true], St.mk 0 0 Tr.leaf)) (ifB (n4 == 3) (some ([AV.bool true], St.mk 0 0 Tr.leaf)) (ifB (n4 == 1) (some ([AV.bool (n7 == 9)], St.mk 0 0 Tr.leaf))
 (some ([AV.bool false], St.mk 0 0 Tr.leaf))))) fun c14 => unc (Prod.fst c14) fun v15 l16 => asB v15 fun b17 => un0 l16 (ifB b17 (some (AV.bool false)) (bindO (loopO (g17_L1 v13) ([AV.bool false, AV.int .i64 0], Prod.snd
 c14)) fun c48 => unc (Prod.fst (Prod.snd c48)) fun v49 l50 => asB v49 fun b51 => un0 l50 (sel2 (Prod.fst c48) (some (AV.bool true)) fun _x => some (AV.bool b51))))))
/-- rostrum/rostrumlaw12.nodes -/
noncomputable def g19_L1 (n13 : Int) (v14 : AV) : Car → Option (Car ⊕ Nat × Car) := fun c15 => unc (Prod.fst c15) fun v16 l17 => asI .i64 v16 fun n18 => unc l17 fun v19 l20 => asI .i64 v19 fun n21 => un0 l20 (bindO
 (lenS v14 fun k22 => ifB (decide (n21 < (↑k22 : Int))) (some ([AV.bool (decide (n18 < n13))], Prod.snd c15)) (some ([AV.bool false], Prod.snd c15))) fun c23 => unc (Prod.fst c23) fun v24 l25 => asB v24 fun b26 => un0
 l25 (ifB b26 (idxA 4 v14 n21 (Prod.snd c23) fun v27 _x => loadS 4 true v27 (Prod.snd c23) fun v29 _x => unA v29 fun l32 => unc l32 fun v33 l34 => asI .u8 v33 fun n35 => unc l34 fun v36 l37 => asI .u8 v36 fun n38 => unc
 l37 fun v39 l40 => asS v39 fun l41 => unc l40 fun v42 l43 => un0 l43 (letV (IntKind.wrap .i64 (n13 - n18)) fun n44 => callS (orc vE) 19 [AV.agg [AV.int .u8 n35, AV.int .u8 n38, AV.str l41, v42], AV.int .i64 n44]
 (Prod.snd c23) fun v45 st46 _x => asI .i64 v45 fun n48 => letV (IntKind.wrap .i64 (n18 + n48)) fun n49 => letV (IntKind.wrap .i64 (n21 + 1)) fun n50 => some (Sum.inl ([AV.int .i64 n49, AV.int .i64 n50], st46)))) (some
 (Sum.inr (0, [AV.int .i64 n18], Prod.snd c23)))))
noncomputable def g19 : AV → AV → Option AV := fun x0 x1 => unA x0 fun l1 => unc l1 fun v2 l3 => asI .u8 v2 fun _x => unc l3 fun v5 l6 => asI .u8 v5 fun _x => unc l6 fun v8 l9 => asS v8 fun _x => unc l9 fun v11 l12 =>
 un0 l12 (asI .i64 x1 fun n13 => asOne v11 (fit1 v11 fun v14 => bindO (loopO (g19_L1 n13 v14) ([AV.int .i64 1, AV.int .i64 0], St.mk 0 0 Tr.leaf)) fun c51 => unc (Prod.fst (Prod.snd c51)) fun v52 l53 => asI .i64 v52 fun
 n54 => un0 l53 (some (AV.int .i64 n54))))
/-- rostrum/rostrumlaw12.of -/
noncomputable def g20 : AV → Option AV := fun x0 => asS x0 fun l0 => callS (orc vE) 10 [AV.str l0] (St.mk 0 0 Tr.leaf) fun v1 st2 _x => unT v1 fun l4 => nthS l4 0 fun v5 => unA v5 fun l7 => unc l7 fun v8 l9 => asI .u8
 v8 fun n10 => unc l9 fun v11 l12 => asI .u8 v11 fun n13 => unc l12 fun v14 l15 => asS v14 fun l16 => unc l15 fun v17 l18 => un0 l18 (unT v1 fun l19 => nthS l19 1 fun v20 => asI .i64 v20 fun n21 => letSt (St.add st2
 (VM.Obj.cells 27 [AV.int .u8 0, AV.int .u8 0, AV.str [], AV.nils])) fun st22 => asOne v17 (storeS (orc vE) 4 (AV.mp (St.h st2) 0) (AV.agg [AV.int .u8 n10, AV.int .u8 n13, AV.str l16, v17]) [AV.int .u8 n10, AV.int .u8
 n13, AV.str l16, v17] st22 fun _x st24 _x_1 => ifB (n21 != 0) (some (AV.str [])) (loadS 4 true (AV.mp (St.h st2) 0) st24 fun v26 _x => unA v26 fun l29 => unc l29 fun v30 l31 => asI .u8 v30 fun n32 => unc l31 fun v33 l34
 => asI .u8 v33 fun n35 => unc l34 fun v36 l37 => asS v36 fun l38 => unc l37 fun v39 l40 => un0 l40 (callS (orc vE) 13 [AV.agg [AV.int .u8 n32, AV.int .u8 n35, AV.str l38, v39]] st24 fun v41 _x _x_2 => asS v41 fun l44 =>
 some (AV.str l44)))))
theorem g20_eq (x0 : AV) : bareS vE 20 [x0] = g20 x0 := by kernel_rfl
/-- rostrum/lex.Tokens -/
noncomputable def g23_L1 : Car → Option (Car ⊕ Nat × Car) := fun c11 => unc (Prod.fst c11) fun v12 l13 => unc l13 fun v14 l15 => asS v14 fun l16 => unc l15 fun v17 l18 => asI .i64 v17 fun n19 => un0 l18 (ifB (decide
 (n19 < 7)) (idxA 1 (AV.sl 1 [AV.fn (Fn.func 30) [] [], AV.fn (Fn.func 31) [] [], AV.fn (Fn.func 32) [] [], AV.fn (Fn.func 33) [] [], AV.fn (Fn.func 34) [] [], AV.fn (Fn.func 35) [] [], AV.fn (Fn.func 36) [] []]
 Perm.shut) n19 (Prod.snd c11) fun v20 _x => loadS 1 false v20 (Prod.snd c11) fun v22 _x => callF (orc vE) (Sx.prim (sx vE 23)) v22 [AV.str l16] (Prod.snd c11) fun v24 st25 _x => unT v24 fun l27 => nthS l27 0 fun v28 =>
 asI .u8 v28 fun n29 => unT v24 fun l30 => nthS l30 1 fun v31 => asI .i64 v31 fun n32 => ifB (decide (n32 > 0)) (uptoS n32 (List.length l16) fun k33 => letV (List.drop 0 (List.take k33 l16)) fun l34 => appS 2 24 24 v12
 [AV.agg [AV.int .u8 n29, AV.str l34]] st25 fun v36 st37 _x => uptoS n32 (List.length l16) fun k39 => letV (List.drop k39 (List.take (List.length l16) l16)) fun l40 => some (Sum.inr (0, [v36, AV.str l40], st37))) (letV
 (IntKind.wrap .i64 (n19 + 1)) fun n41 => some (Sum.inl ([v12, AV.str l16, AV.int .i64 n41], st25)))) (some (Sum.inr (0, [v12, AV.str l16], Prod.snd c11))))
noncomputable def g23_L2 : Car → Option (Car ⊕ Nat × Car) := fun c5 => unc (Prod.fst c5) fun v6 l7 => unc l7 fun v8 l9 => asS v8 fun l10 => un0 l9 (ifB (!l10 == []) (bindO (loopO g23_L1 ([v6, AV.str l10, AV.int .i64 0],
 Prod.snd c5)) fun c42 => unc (Prod.fst (Prod.snd c42)) fun v43 l44 => unc l44 fun v45 l46 => asS v45 fun l47 => un0 l46 (some (Sum.inl ([v43, AV.str l47], Prod.snd (Prod.snd c42))))) (some (Sum.inr (0, [v6], Prod.snd
 c5))))
noncomputable def g23 : AV → Option AV := fun x0 => asS x0 fun l0 => ifB (decide ((↑(List.length l0) : Int) > 65536)) (some (AV.tup [AV.nils, AV.int .i64 40])) (callS (orc vE) 29 [AV.str l0] (St.mk 0 0 Tr.leaf) fun v1
 st2 _x => asB v1 fun b4 => ifB (!b4) (some (AV.tup [AV.nils, AV.int .i64 4])) (bindO (loopO g23_L2 ([AV.nils, AV.str l0], st2)) fun c48 => unc (Prod.fst (Prod.snd c48)) fun v49 l50 => un0 l50 (frzS (Prod.snd (Prod.snd
 c48)) 0 (AV.tup [v49, AV.int .i64 0]) fun v51 => some v51)))
theorem g23_eq (x0 : AV) : bareS vE 23 [x0] = g23 x0 := by kernel_rfl
/-- rostrum/utf.Valid -/
noncomputable def g29 : AV → Option AV := fun x0 => asS x0 fun l0 => planS (orc vE) (primP (Prim.lib libValid) [AV.str l0]) (St.mk 0 0 Tr.leaf) fun v1 _x _x_1 => asB v1 fun b4 => some (AV.bool b4)
theorem g29_eq (x0 : AV) : bareS vE 29 [x0] = g29 x0 := by kernel_rfl
/-- rostrum/lex.blank -/
noncomputable def g30 : AV → Option AV := fun x0 => asS x0 fun l0 => callS (orc vE) 49 [AV.str l0, AV.str [32, 9, 10, 13]] (St.mk 0 0 Tr.leaf) fun v1 _x _x_1 => asI .i64 v1 fun n4 => some (AV.tup [AV.int .u8 1, AV.int
 .i64 n4])
theorem g30_eq (x0 : AV) : bareS vE 30 [x0] = g30 x0 := by kernel_rfl
/-- rostrum/lex.remark -/
noncomputable def g31_L1 (l0 : List UInt8) : Car → Option (Car ⊕ Nat × Car) := fun c5 => unc (Prod.fst c5) fun v6 l7 => asI .i64 v6 fun n8 => unc l7 fun v9 l10 => asI .u8 v9 fun n11 => unc l10 fun v12 l13 => asI .i64
 v12 fun n14 => unc l13 fun v15 l16 => asI .i64 v15 fun n17 => un0 l16 (ifB (decide (n17 < (↑(List.length l0) : Int))) (uptoS n17 (List.length l0) fun k18 => letV (List.drop k18 (List.take (List.length l0) l0)) fun l19
 => callS (orc vE) 50 [AV.str l19, AV.str [40, 42]] (Prod.snd c5) fun v20 st21 _x => asB v20 fun b23 => bindO (ifB b23 (letV (IntKind.wrap .i64 (n8 + 1)) fun n24 => letV (IntKind.wrap .i64 (n17 + 2)) fun n25 => some
 (Sum.inl ([AV.int .i64 n24, AV.int .u8 n11, AV.int .i64 n14, AV.int .i64 n25], st21))) (uptoS n17 (List.length l0) fun k26 => letV (List.drop k26 (List.take (List.length l0) l0)) fun l27 => callS (orc vE) 50 [AV.str
 l27, AV.str [42, 41]] st21 fun v28 st29 _x => asB v28 fun b31 => bindO (ifB b31 (letV (IntKind.wrap .i64 (n8 - 1)) fun n32 => letV (IntKind.wrap .i64 (n17 + 2)) fun n33 => ifB (n32 == 0) (some (Sum.inr (Sum.inr (Sum.inr
 (1, [AV.int .u8 2, AV.int .i64 n33], st29))))) (some (Sum.inl ([AV.int .i64 n32, AV.int .u8 n11, AV.int .i64 n14, AV.int .i64 n33], st29)))) (letV (IntKind.wrap .i64 (n17 + 1)) fun n34 => some (Sum.inl ([AV.int .i64 n8,
 AV.int .u8 n11, AV.int .i64 n14, AV.int .i64 n34], st29)))) fun c35 => onSum c35 fun c36 => unc (Prod.fst c36) fun v37 l38 => asI .i64 v37 fun n39 => unc l38 fun v40 l41 => asI .u8 v40 fun n42 => unc l41 fun v43 l44 =>
 asI .i64 v43 fun n45 => unc l44 fun v46 l47 => asI .i64 v46 fun n48 => un0 l47 (some (Sum.inl ([AV.int .i64 n39, AV.int .u8 n42, AV.int .i64 n45, AV.int .i64 n48], Prod.snd c36))))) fun c49 => onSum c49 fun c50 => unc
 (Prod.fst c50) fun v51 l52 => asI .i64 v51 fun n53 => unc l52 fun v54 l55 => asI .u8 v54 fun n56 => unc l55 fun v57 l58 => asI .i64 v57 fun n59 => unc l58 fun v60 l61 => asI .i64 v60 fun n62 => un0 l61 (some (Sum.inl
 ([AV.int .i64 n53, AV.int .u8 n56, AV.int .i64 n59, AV.int .i64 n62], Prod.snd c50)))) (some (Sum.inr (0, [AV.int .u8 n11, AV.int .i64 n14], Prod.snd c5))))
noncomputable def g31 : AV → Option AV := fun x0 => asS x0 fun l0 => callS (orc vE) 50 [AV.str l0, AV.str [40, 42]] (St.mk 0 0 Tr.leaf) fun v1 st2 _x => asB v1 fun b4 => ifB (!b4) (some (AV.tup [AV.int .u8 0, AV.int
 .i64 0])) (bindO (loopO (g31_L1 l0) ([AV.int .i64 0, AV.int .u8 0, AV.int .i64 0, AV.int .i64 0], st2)) fun c63 => unc (Prod.fst (Prod.snd c63)) fun v64 l65 => asI .u8 v64 fun n66 => unc l65 fun v67 l68 => asI .i64 v67
 fun n69 => un0 l68 (sel2 (Prod.fst c63) (some (AV.tup [AV.int .u8 9, AV.int .i64 (↑(List.length l0) : Int)])) fun _x => some (AV.tup [AV.int .u8 n66, AV.int .i64 n69])))
theorem g31_eq (x0 : AV) : bareS vE 31 [x0] = g31 x0 := by kernel_rfl
/-- rostrum/lex.name -/
noncomputable def g32 : AV → Option AV := fun x0 => asS x0 fun l0 => chk (Nat.ble 1 (List.length l0)) (letV (List.drop 0 (List.take 1 l0)) fun l1 => callS (orc vE) 49 [AV.str l1, AV.str [97, 98, 99, 100, 101, 102, 103,
 104, 105, 106, 107, 108, 109, 110, 111, 112, 113, 114, 115, 116, 117, 118, 119, 120, 121, 122, 95]] (St.mk 0 0 Tr.leaf) fun v2 st3 _x => asI .i64 v2 fun n5 => ifB (n5 == 0) (some (AV.tup [AV.int .u8 0, AV.int .i64 0]))
 (callS (orc vE) 49 [AV.str l0, AV.str [97, 98, 99, 100, 101, 102, 103, 104, 105, 106, 107, 108, 109, 110, 111, 112, 113, 114, 115, 116, 117, 118, 119, 120, 121, 122, 95, 65, 66, 67, 68, 69, 70, 71, 72, 73, 74, 75, 76,
 77, 78, 79, 80, 81, 82, 83, 84, 85, 86, 87, 88, 89, 90, 39, 48, 49, 50, 51, 52, 53, 54, 55, 56, 57]] st3 fun v6 st7 _x => asI .i64 v6 fun n9 => callS (orc vE) 51 [] st7 fun v10 st11 x12 => chk (apart x12 (Fx.mk []
 Did.kept) && true) (chk (apart x12 (Fx.mk [] Did.kept) && true) (uptoS n9 (List.length l0) fun k13 => letV (List.drop 0 (List.take k13 l0)) fun l14 => chk (apart x12 (Fx.mk [] Did.kept) && true) (planS (orc vE) (lookupP
 (Env.T vE) 71 v10 (AV.str l14) true) st11 fun v15 _x _x_1 => unT v15 fun l18 => nthS l18 0 fun v19 => asI .u8 v19 fun n20 => unT v15 fun l21 => nthS l21 1 fun v22 => asB v22 fun b23 => ifB b23 (some (AV.tup [AV.int .u8
 n20, AV.int .i64 n9])) (some (AV.tup [AV.int .u8 4, AV.int .i64 n9])))))))
theorem g32_eq (x0 : AV) : bareS vE 32 [x0] = g32 x0 := by kernel_rfl
/-- rostrum/lex.number -/
noncomputable def g33 : AV → Option AV := fun x0 => asS x0 fun l0 => callS (orc vE) 49 [AV.str l0, AV.str [48, 49, 50, 51, 52, 53, 54, 55, 56, 57]] (St.mk 0 0 Tr.leaf) fun v1 st2 _x => asI .i64 v1 fun n4 => bindO (ifB
 (n4 == 0) (some ([AV.bool true], st2)) (uptoS n4 (List.length l0) fun k5 => letV (List.drop k5 (List.take (List.length l0) l0)) fun l6 => callS (orc vE) 50 [AV.str l6, AV.str [46]] st2 fun v7 st8 _x => asB v7 fun b10 =>
 some ([AV.bool !b10], st8))) fun c11 => unc (Prod.fst c11) fun v12 l13 => asB v12 fun b14 => un0 l13 (ifB b14 (some (AV.tup [AV.int .u8 5, AV.int .i64 n4])) (letV (IntKind.wrap .i64 (n4 + 1)) fun n15 => uptoS n15
 (List.length l0) fun k16 => letV (List.drop k16 (List.take (List.length l0) l0)) fun l17 => callS (orc vE) 49 [AV.str l17, AV.str [48, 49, 50, 51, 52, 53, 54, 55, 56, 57]] (Prod.snd c11) fun v18 st19 _x => asI .i64 v18
 fun n21 => letV (IntKind.wrap .i64 (n4 + n21)) fun n22 => letV (IntKind.wrap .i64 (n4 + 1)) fun n23 => letV (IntKind.wrap .i64 (n23 + n21)) fun n24 => letV (IntKind.wrap .i64 (n24 + 1)) fun n25 => letV (if
 (↑(List.length l0) : Int) < n25 then (↑(List.length l0) : Int) else n25) fun n26 => uptoS n26 (List.length l0) fun k27 => uptoS n24 k27 fun k28 => letV (List.drop k28 (List.take k27 l0)) fun l29 => callS (orc vE) 49
 [AV.str l29, AV.str [101, 69]] st19 fun v30 st31 _x => asI .i64 v30 fun n33 => bindO (ifB (decide (n33 > 0)) (letV (IntKind.wrap .i64 (n24 + 1)) fun n34 => letV (IntKind.wrap .i64 (n24 + 2)) fun n35 => letV (if
 (↑(List.length l0) : Int) < n35 then (↑(List.length l0) : Int) else n35) fun n36 => uptoS n36 (List.length l0) fun k37 => uptoS n34 k37 fun k38 => letV (List.drop k38 (List.take k37 l0)) fun l39 => callS (orc vE) 49
 [AV.str l39, AV.str [43, 45]] st31 fun v40 st41 _x => asI .i64 v40 fun n43 => letV (IntKind.wrap .i64 (n24 + 1)) fun n44 => letV (IntKind.wrap .i64 (n44 + n43)) fun n45 => uptoS n45 (List.length l0) fun k46 => letV
 (List.drop k46 (List.take (List.length l0) l0)) fun l47 => callS (orc vE) 49 [AV.str l47, AV.str [48, 49, 50, 51, 52, 53, 54, 55, 56, 57]] st41 fun v48 st49 _x => asI .i64 v48 fun n51 => bindO (ifB (decide (n51 > 0))
 (letV (IntKind.wrap .i64 (n24 + 1)) fun n52 => letV (IntKind.wrap .i64 (n24 + 1)) fun n53 => letV (IntKind.wrap .i64 (n53 + n43)) fun n54 => letV (IntKind.wrap .i64 (n54 + n51)) fun n55 => uptoS n55 (List.length l0) fun
 k56 => uptoS n52 k56 fun k57 => letV (List.drop k57 (List.take k56 l0)) fun l58 => callS (orc vE) 53 [AV.str l58, AV.str [43]] st49 fun v59 st60 _x => asS v59 fun l62 => planS (orc vE) (primP (Prim.lib (libAtoi 121))
 [AV.str l62]) st60 fun v63 st64 _x => unT v63 fun l66 => nthS l66 0 fun v67 => asI .i64 v67 fun n68 => unT v63 fun l69 => nthS l69 1 fun v70 => bindO (nifS BinOp.neq v70) fun v71 => asB v71 fun b72 => bindO (ifB b72
 (some ([AV.int .i64 1073741824], st64)) (some ([AV.int .i64 n68], st64))) fun c73 => unc (Prod.fst c73) fun v74 l75 => asI .i64 v74 fun n76 => un0 l75 (letV (IntKind.wrap .i64 (n24 + 1)) fun n77 => letV (IntKind.wrap
 .i64 (n77 + n43)) fun n78 => letV (IntKind.wrap .i64 (n78 + n51)) fun n79 => some ([AV.int .i64 n79, AV.int .i64 n76], Prod.snd c73))) (some ([AV.int .i64 n24, AV.int .i64 0], st49))) fun c80 => unc (Prod.fst c80) fun
 v81 l82 => asI .i64 v81 fun n83 => unc l82 fun v84 l85 => asI .i64 v84 fun n86 => un0 l85 (some ([AV.int .i64 n83, AV.int .i64 n86], Prod.snd c80))) (some ([AV.int .i64 n24, AV.int .i64 0], st31))) fun c87 => unc
 (Prod.fst c87) fun v88 l89 => asI .i64 v88 fun n90 => unc l89 fun v91 l92 => asI .i64 v91 fun n93 => un0 l92 (bindO (ifB (decide (n22 > 15)) (some ([AV.bool true], Prod.snd c87)) (letV (IntKind.wrap .i64 (n93 - n21))
 fun n94 => ifB (decide (n94 < -22)) (some ([AV.bool true], Prod.snd c87)) (letV (IntKind.wrap .i64 (n93 - n21)) fun n95 => some ([AV.bool (decide (n95 > 22))], Prod.snd c87)))) fun c96 => unc (Prod.fst c96) fun v97 l98
 => asB v97 fun b99 => un0 l98 (ifB b99 (some (AV.tup [AV.int .u8 9, AV.int .i64 n90])) (some (AV.tup [AV.int .u8 6, AV.int .i64 n90]))))))
theorem g33_eq (x0 : AV) : bareS vE 33 [x0] = g33 x0 := by kernel_rfl
/-- rostrum/lex.text -/
noncomputable def g34_L1 (l11 : List UInt8) : Car → Option (Car ⊕ Nat × Car) := fun c12 => unc (Prod.fst c12) fun v13 l14 => asI .u8 v13 fun n15 => unc l14 fun v16 l17 => asI .i64 v16 fun n18 => unc l17 fun v19 l20 =>
 asI .i64 v19 fun n21 => un0 l20 (ifB (decide (n21 < (↑(List.length l11) : Int))) (bindO (idxStr l11 n21 fun c22 => ifB ((↑(UInt8.toNat c22) : Int) == 34) (letV (IntKind.wrap .i64 (n21 + 1)) fun n23 => some (Sum.inr
 (Sum.inr (1, [AV.int .u8 7, AV.int .i64 n23], Prod.snd c12)))) (ifB ((↑(UInt8.toNat c22) : Int) == 92) (bindO (letV (IntKind.wrap .i64 (n21 + 1)) fun n24 => ifB (decide (n24 < (↑(List.length l11) : Int))) (letV
 (IntKind.wrap .i64 (n21 + 1)) fun n25 => idxStr l11 n25 fun c26 => callS (orc vE) 54 [AV.str [110, 116, 92, 34], AV.int .u8 (↑(UInt8.toNat c26) : Int)] (Prod.snd c12) fun v27 st28 _x => asI .i64 v27 fun n30 => some
 ([AV.bool (decide (n30 ≥ 0))], st28)) (some ([AV.bool false], Prod.snd c12))) fun c31 => unc (Prod.fst c31) fun v32 l33 => asB v32 fun b34 => un0 l33 (ifB b34 (letV (IntKind.wrap .i64 (n21 + 1)) fun n35 => some (Sum.inl
 ([AV.int .i64 n35, AV.int .u8 n15, AV.int .i64 n18], Prod.snd c31))) (uptoS n21 (List.length l11) fun k36 => letV (List.drop k36 (List.take (List.length l11) l11)) fun l37 => callS (orc vE) 54 [AV.str l37, AV.int .u8
 34] (Prod.snd c31) fun v38 st39 _x => asI .i64 v38 fun n41 => ifB (decide (n41 ≥ 0)) (letV (IntKind.wrap .i64 (n21 + n41)) fun n42 => letV (IntKind.wrap .i64 (n42 + 1)) fun n43 => some (Sum.inr (Sum.inr (1, [AV.int .u8
 9, AV.int .i64 n43], st39)))) (some (Sum.inr (Sum.inr (1, [AV.int .u8 9, AV.int .i64 (↑(List.length l11) : Int)], st39))))))) (some (Sum.inl ([AV.int .i64 n21, AV.int .u8 n15, AV.int .i64 n18], Prod.snd c12))))) fun c44
 => onSum c44 fun c45 => unc (Prod.fst c45) fun v46 l47 => asI .i64 v46 fun n48 => unc l47 fun v49 l50 => asI .u8 v49 fun n51 => unc l50 fun v52 l53 => asI .i64 v52 fun n54 => un0 l53 (letV (IntKind.wrap .i64 (n48 + 1))
 fun n55 => some (Sum.inl ([AV.int .u8 n51, AV.int .i64 n54, AV.int .i64 n55], Prod.snd c45)))) (some (Sum.inr (0, [AV.int .u8 n15, AV.int .i64 n18], Prod.snd c12))))
noncomputable def g34 : AV → Option AV := fun x0 => asS x0 fun l0 => idxStr l0 0 fun c1 => ifB ((↑(UInt8.toNat c1) : Int) != 34) (some (AV.tup [AV.int .u8 0, AV.int .i64 0])) (callS (orc vE) 54 [AV.str l0, AV.int .u8
 10] (St.mk 0 0 Tr.leaf) fun v2 st3 _x => asI .i64 v2 fun n5 => bindO (ifB (decide (n5 ≥ 0)) (uptoS n5 (List.length l0) fun k6 => letV (List.drop 0 (List.take k6 l0)) fun l7 => some ([AV.str l7], st3)) (some ([AV.str
 l0], st3))) fun c8 => unc (Prod.fst c8) fun v9 l10 => asS v9 fun l11 => un0 l10 (bindO (loopO (g34_L1 l11) ([AV.int .u8 0, AV.int .i64 0, AV.int .i64 1], Prod.snd c8)) fun c56 => unc (Prod.fst (Prod.snd c56)) fun v57
 l58 => asI .u8 v57 fun n59 => unc l58 fun v60 l61 => asI .i64 v60 fun n62 => un0 l61 (sel2 (Prod.fst c56) (some (AV.tup [AV.int .u8 9, AV.int .i64 (↑(List.length l11) : Int)])) fun _x => some (AV.tup [AV.int .u8 n59,
 AV.int .i64 n62]))))
theorem g34_eq (x0 : AV) : bareS vE 34 [x0] = g34 x0 := by kernel_rfl
/-- rostrum/lex.sign -/
noncomputable def g35 : AV → Option AV := fun x0 => asS x0 fun l0 => bindO (ifB (decide ((↑(List.length l0) : Int) > 1)) (chk (Nat.ble 2 (List.length l0)) (letV (List.drop 0 (List.take 2 l0)) fun l1 => bindO (ifB (l1 ==
 [45, 62]) (some ([AV.bool (l1 == [45, 62])], St.mk 0 0 Tr.leaf)) (bindO (ifB (l1 == [58, 58]) (some ([AV.bool (l1 == [58, 58])], St.mk 0 0 Tr.leaf)) (bindO (ifB (l1 == [60, 62]) (some ([AV.bool (l1 == [60, 62])], St.mk
 0 0 Tr.leaf)) (bindO (ifB (l1 == [60, 61]) (some ([AV.bool (l1 == [60, 61])], St.mk 0 0 Tr.leaf)) (bindO (ifB (l1 == [62, 61]) (some ([AV.bool (l1 == [62, 61])], St.mk 0 0 Tr.leaf)) (bindO (ifB (l1 == [43, 46]) (some
 ([AV.bool (l1 == [43, 46])], St.mk 0 0 Tr.leaf)) (bindO (ifB (l1 == [45, 46]) (some ([AV.bool (l1 == [45, 46])], St.mk 0 0 Tr.leaf)) (bindO (ifB (l1 == [42, 46]) (some ([AV.bool (l1 == [42, 46])], St.mk 0 0 Tr.leaf))
 (bindO (ifB (l1 == [47, 46]) (some ([AV.bool (l1 == [47, 46])], St.mk 0 0 Tr.leaf)) (bindO (ifB (l1 == [38, 38]) (some ([AV.bool (l1 == [38, 38])], St.mk 0 0 Tr.leaf)) (some ([AV.bool (l1 == [124, 124])], St.mk 0 0
 Tr.leaf))) fun c2 => unc (Prod.fst c2) fun v3 l4 => asB v3 fun b5 => un0 l4 (some ([AV.bool b5], Prod.snd c2)))) fun c6 => unc (Prod.fst c6) fun v7 l8 => asB v7 fun b9 => un0 l8 (some ([AV.bool b9], Prod.snd c6)))) fun
 c10 => unc (Prod.fst c10) fun v11 l12 => asB v11 fun b13 => un0 l12 (some ([AV.bool b13], Prod.snd c10)))) fun c14 => unc (Prod.fst c14) fun v15 l16 => asB v15 fun b17 => un0 l16 (some ([AV.bool b17], Prod.snd c14))))
 fun c18 => unc (Prod.fst c18) fun v19 l20 => asB v19 fun b21 => un0 l20 (some ([AV.bool b21], Prod.snd c18)))) fun c22 => unc (Prod.fst c22) fun v23 l24 => asB v23 fun b25 => un0 l24 (some ([AV.bool b25], Prod.snd
 c22)))) fun c26 => unc (Prod.fst c26) fun v27 l28 => asB v27 fun b29 => un0 l28 (some ([AV.bool b29], Prod.snd c26)))) fun c30 => unc (Prod.fst c30) fun v31 l32 => asB v31 fun b33 => un0 l32 (some ([AV.bool b33],
 Prod.snd c30)))) fun c34 => unc (Prod.fst c34) fun v35 l36 => asB v35 fun b37 => un0 l36 (some ([AV.bool b37], Prod.snd c34)))) fun c38 => unc (Prod.fst c38) fun v39 l40 => asB v39 fun b41 => un0 l40 (ifB b41 (some
 (Sum.inr (AV.tup [AV.int .u8 8, AV.int .i64 2]))) (some (Sum.inl ([AV.int .u8 0, AV.int .i64 0], Prod.snd c38)))))) (some (Sum.inl ([AV.int .u8 0, AV.int .i64 0], St.mk 0 0 Tr.leaf)))) fun c42 => onSum c42 fun c43 =>
 unc (Prod.fst c43) fun v44 l45 => asI .u8 v44 fun _x => unc l45 fun v47 l48 => asI .i64 v47 fun _x => un0 l48 (chk (Nat.ble 1 (List.length l0)) (letV (List.drop 0 (List.take 1 l0)) fun l50 => callS (orc vE) 49 [AV.str
 l50, AV.str [40, 41, 91, 93, 44, 59, 124, 61, 60, 62, 43, 45, 42, 47, 94, 64]] (Prod.snd c43) fun v51 _x _x_1 => asI .i64 v51 fun n54 => letV (if n54 < 1 then n54 else 1) fun n55 => some (AV.tup [AV.int .u8 8, AV.int
 .i64 n55])))
theorem g35_eq (x0 : AV) : bareS vE 35 [x0] = g35 x0 := by kernel_rfl
/-- rostrum/lex.bad -/
noncomputable def g36 : AV → Option AV := fun x0 => asS x0 fun l0 => callS (orc vE) 55 [AV.str l0] (St.mk 0 0 Tr.leaf) fun v1 _x _x_1 => unT v1 fun l4 => nthS l4 0 fun v5 => asI .i64 v5 fun _x => unT v1 fun l7 => nthS
 l7 1 fun v8 => asI .i64 v8 fun n9 => some (AV.tup [AV.int .u8 9, AV.int .i64 n9])
theorem g36_eq (x0 : AV) : bareS vE 36 [x0] = g36 x0 := by kernel_rfl
/-- rostrum/lex.run -/
noncomputable def g49 : AV → AV → Option AV := fun x0 x1 => asS x0 fun l0 => asS x1 fun l1 => planS (orc vE) (primP (Prim.lib libTrimLeft) [AV.str l0, AV.str l1]) (St.mk 0 0 Tr.leaf) fun v2 _x _x_1 => asS v2 fun l5 =>
 letV (IntKind.wrap .i64 ((↑(List.length l0) : Int) - (↑(List.length l5) : Int))) fun n6 => some (AV.int .i64 n6)
theorem g49_eq (x0 x1 : AV) : bareS vE 49 [x0, x1] = g49 x0 x1 := by kernel_rfl
/-- strings.HasPrefix -/
noncomputable def g50 : AV → AV → Option AV := fun x0 x1 => asS x0 fun l0 => asS x1 fun l1 => callS (orc vE) 80 [AV.str l0, AV.str l1] (St.mk 0 0 Tr.leaf) fun v2 _x _x_1 => asB v2 fun b5 => some (AV.bool b5)
theorem g50_eq (x0 x1 : AV) : bareS vE 50 [x0, x1] = g50 x0 x1 := by kernel_rfl
/-- strings.TrimPrefix -/
noncomputable def g53 : AV → AV → Option AV := fun x0 x1 => asS x0 fun l0 => asS x1 fun l1 => callS (orc vE) 84 [AV.str l0, AV.str l1] (St.mk 0 0 Tr.leaf) fun v2 _x _x_1 => asS v2 fun l5 => some (AV.str l5)
theorem g53_eq (x0 x1 : AV) : bareS vE 53 [x0, x1] = g53 x0 x1 := by kernel_rfl
/-- strings.IndexByte -/
noncomputable def g54 : AV → AV → Option AV := fun x0 x1 => asS x0 fun l0 => asI .u8 x1 fun n1 => callS (orc vE) 85 [AV.str l0, AV.int .u8 n1] (St.mk 0 0 Tr.leaf) fun v2 _x _x_1 => asI .i64 v2 fun n5 => some (AV.int
 .i64 n5)
theorem g54_eq (x0 x1 : AV) : bareS vE 54 [x0, x1] = g54 x0 x1 := by kernel_rfl
/-- rostrum/utf.Rune -/
noncomputable def g55 : AV → Option AV := fun x0 => asS x0 fun l0 => ifB (l0 == []) (some (AV.tup [AV.int .i64 (-1), AV.int .i64 0])) (planS (orc vE) (primP (Prim.lib libDecode) [AV.str l0]) (St.mk 0 0 Tr.leaf) fun v1
 st2 _x => unT v1 fun l4 => nthS l4 0 fun v5 => asI .i32 v5 fun n6 => unT v1 fun l7 => nthS l7 1 fun v8 => asI .i64 v8 fun n9 => bindO (ifB (n6 == 65533) (some ([AV.bool (decide (n9 < 2))], st2)) (some ([AV.bool false],
 st2))) fun c10 => unc (Prod.fst c10) fun v11 l12 => asB v11 fun b13 => un0 l12 (ifB b13 (some (AV.tup [AV.int .i64 (-1), AV.int .i64 1])) (letV (IntKind.wrap .i64 n6) fun n14 => some (AV.tup [AV.int .i64 n14, AV.int
 .i64 n9]))))
theorem g55_eq (x0 : AV) : bareS vE 55 [x0] = g55 x0 := by kernel_rfl
/-- rostrum/parse.trivial -/
noncomputable def g56 : AV → Option AV := fun x0 => unA x0 fun l1 => unc l1 fun v2 l3 => asI .u8 v2 fun n4 => unc l3 fun v5 l6 => asS v5 fun _x => un0 l6 (bindO (ifB (n4 == 1) (some ([AV.bool true], St.mk 0 0 Tr.leaf))
 (some ([AV.bool (n4 == 2)], St.mk 0 0 Tr.leaf))) fun c8 => unc (Prod.fst c8) fun v9 l10 => asB v9 fun b11 => un0 l10 (some (AV.bool b11)))
theorem g56_eq (x0 : AV) : bareS vE 56 [x0] = g56 x0 := by kernel_rfl
/-- slices.Contains[[]string,string] -/
noncomputable def g57 : AV → AV → Option AV := fun x0 x1 => asS x1 fun l0 => callS (orc vE) 87 [x0, AV.str l0] (St.mk 0 0 Tr.leaf) fun v1 _x _x_1 => asI .i64 v1 fun n4 => some (AV.bool (decide (n4 ≥ 0)))
theorem g57_eq (x0 x1 : AV) : bareS vE 57 [x0, x1] = g57 x0 x1 := by kernel_rfl
/-- internal/stringslite.HasPrefix -/
noncomputable def g80 : AV → AV → Option AV := fun x0 x1 => asS x0 fun l0 => asS x1 fun l1 => bindO (ifB (decide ((↑(List.length l0) : Int) ≥ (↑(List.length l1) : Int))) (chk (Nat.ble (List.length l1) (List.length l0))
 (letV (List.drop 0 (List.take (List.length l1) l0)) fun l2 => some ([AV.bool (l2 == l1)], St.mk 0 0 Tr.leaf))) (some ([AV.bool false], St.mk 0 0 Tr.leaf))) fun c3 => unc (Prod.fst c3) fun v4 l5 => asB v4 fun b6 => un0
 l5 (some (AV.bool b6))
theorem g80_eq (x0 x1 : AV) : bareS vE 80 [x0, x1] = g80 x0 x1 := by kernel_rfl
/-- internal/stringslite.TrimPrefix -/
noncomputable def g84 : AV → AV → Option AV := fun x0 x1 => asS x0 fun l0 => asS x1 fun l1 => callS (orc vE) 80 [AV.str l0, AV.str l1] (St.mk 0 0 Tr.leaf) fun v2 _x _x_1 => asB v2 fun b5 => ifB b5 (chk (Nat.ble
 (List.length l1) (List.length l0)) (letV (List.drop (List.length l1) (List.take (List.length l0) l0)) fun l6 => some (AV.str l6))) (some (AV.str l0))
theorem g84_eq (x0 x1 : AV) : bareS vE 84 [x0, x1] = g84 x0 x1 := by kernel_rfl
/-- internal/stringslite.IndexByte -/
noncomputable def g85 : AV → AV → Option AV := fun x0 x1 => asS x0 fun l0 => asI .u8 x1 fun n1 => planS (orc vE) (primP Prim.indexByte [AV.str l0, AV.int .u8 n1]) (St.mk 0 0 Tr.leaf) fun v2 _x _x_1 => asI .i64 v2 fun n5
 => some (AV.int .i64 n5)
theorem g85_eq (x0 x1 : AV) : bareS vE 85 [x0, x1] = g85 x0 x1 := by kernel_rfl
/-- slices.Index[[]string,string] -/
noncomputable def g87_L1 (x0 : AV) (l0 : List UInt8) (k1 : Nat) : Car → Option (Car ⊕ Nat × Car) := fun c2 => unc (Prod.fst c2) fun v3 l4 => asI .i64 v3 fun n5 => unc l4 fun v6 l7 => asI .i64 v6 fun n8 => un0 l7 (ifB
 (decide (n8 < (↑k1 : Int))) (idxA 1 x0 n8 (Prod.snd c2) fun v9 _x => loadS 1 false v9 (Prod.snd c2) fun v11 _x => asS v11 fun l13 => ifB (l0 == l13) (some (Sum.inr (1, [AV.int .i64 n8], Prod.snd c2))) (letV
 (IntKind.wrap .i64 (n8 + 1)) fun n14 => some (Sum.inl ([AV.int .i64 n5, AV.int .i64 n14], Prod.snd c2)))) (some (Sum.inr (0, [AV.int .i64 n5], Prod.snd c2))))
noncomputable def g87 : AV → AV → Option AV := fun x0 x1 => asS x1 fun l0 => lenS x0 fun k1 => bindO (loopO (g87_L1 x0 l0 k1) ([AV.int .i64 0, AV.int .i64 0], St.mk 0 0 Tr.leaf)) fun c15 => unc (Prod.fst (Prod.snd c15))
 fun v16 l17 => asI .i64 v16 fun n18 => un0 l17 (sel2 (Prod.fst c15) (some (AV.int .i64 (-1))) fun _x => some (AV.int .i64 n18))
theorem g87_eq (x0 x1 : AV) : bareS vE 87 [x0, x1] = g87 x0 x1 := by kernel_rfl
/-- rostrum/parse.missing -/
noncomputable def g89 : AV → Option AV := fun x0 => asS x0 fun l0 => some (AV.agg [AV.int .u8 2, AV.int .u8 0, AV.str l0, AV.nils])
theorem g89_eq (x0 : AV) : bareS vE 89 [x0] = g89 x0 := by kernel_rfl
/-- rostrum/parse.levels -/
noncomputable def g128 : Option AV := some (AV.sl 2 [AV.agg [AV.sl 1 [AV.str [124, 124]] Perm.shut, AV.bool false], AV.agg [AV.sl 1 [AV.str [38, 38]] Perm.shut, AV.bool false], AV.agg [AV.sl 1 [AV.str [61], AV.str [60,
 62], AV.str [60], AV.str [60, 61], AV.str [62], AV.str [62, 61]] Perm.shut, AV.bool true], AV.agg [AV.sl 1 [AV.str [64], AV.str [94]] Perm.shut, AV.bool false], AV.agg [AV.sl 1 [AV.str [58, 58]] Perm.shut, AV.bool
 false], AV.agg [AV.sl 1 [AV.str [43], AV.str [45], AV.str [43, 46], AV.str [45, 46]] Perm.shut, AV.bool true], AV.agg [AV.sl 1 [AV.str [42], AV.str [47], AV.str [42, 46], AV.str [47, 46], AV.str [109, 111, 100]]
 Perm.shut, AV.bool true]] Perm.shut)
theorem g128_eq : bareS vE 128 [] = g128 := by kernel_rfl
/-- (*rostrum/parse.parser).document -/
noncomputable def w24_L1 (x0 : AV) (c26 : Car) : Car → Option (Car ⊕ Nat × Car) := fun c90 => unc (Prod.fst c90) fun v91 l92 => un0 l92 (bindO (fldA 0 v91 fun v93 => loadS 1 false v93 (Prod.snd c90) fun v94 _x => asI
 .u8 v94 fun n96 => ifB (n96 != 0) (callS (orc vE) 38 [x0, AV.sl 1 [AV.str [108, 101, 116]] Perm.shut] (Prod.snd c90) fun v97 st98 _x => asB v97 fun b100 => some ([AV.bool !b100], st98)) (some ([AV.bool false], Prod.snd
 c90))) fun c101 => unc (Prod.fst c101) fun v102 l103 => asB v102 fun b104 => un0 l103 (ifB b104 (loadS 1 false (AV.mp (St.h (Prod.snd c26)) 3) (Prod.snd c101) fun v105 l106 => callS (orc vE) 39 [x0] (Prod.snd c101) fun
 v107 st108 x109 => unA v107 fun l111 => unc l111 fun v112 l113 => asI .u8 v112 fun n114 => unc l113 fun v115 l116 => asI .u8 v115 fun n117 => unc l116 fun v118 l119 => asS v118 fun l120 => unc l119 fun v121 l122 => un0
 l122 (chk (apart (Fx.mk l106 Did.kept) x109 && (apart (Fx.mk [] Did.kept) x109 && true)) (asOne v121 (asOne v121 (fit1 v121 fun v123 => asOne v123 (fit1 v123 fun v124 => appS 4 56 27 v105 [AV.agg [AV.int .u8 n114,
 AV.int .u8 n117, AV.str l120, v124]] st108 fun v125 st126 _x => asOne v125 (asOne v125 (storeS (orc vE) 1 (AV.mp (St.h (Prod.snd c26)) 3) v125 [v125] st126 fun _x st129 _x_1 => loadS 2 true v91 st129 fun v131 _x => unA
 v131 fun l134 => unc l134 fun v135 l136 => asI .u8 v135 fun n137 => unc l136 fun v138 l139 => asS v138 fun l140 => un0 l139 (letSt (St.add st129 (VM.Obj.cells 24 [AV.int .u8 0, AV.str []])) fun st141 => storeS (orc vE)
 2 (AV.mp (St.h st129) 0) (AV.agg [AV.int .u8 n137, AV.str l140]) [AV.int .u8 n137, AV.str l140] st141 fun _x st143 _x_2 => callS (orc vE) 37 [x0] st143 fun v145 st146 _x => unT v145 fun l148 => nthS l148 0 fun v149 =>
 unA v149 fun l151 => unc l151 fun v152 l153 => asI .u8 v152 fun n154 => unc l153 fun v155 l156 => asS v155 fun l157 => un0 l156 (unT v145 fun l158 => nthS l158 1 fun v159 => asI .i64 v159 fun _x => storeS (orc vE) 2
 (AV.mp (St.h st129) 0) (AV.agg [AV.int .u8 n154, AV.str l157]) [AV.int .u8 n154, AV.str l157] st146 fun _x st162 _x_3 => some (Sum.inl ([AV.mp (St.h st129) 0], st162)))))))))))) (some (Sum.inr (0, [], Prod.snd c101)))))
noncomputable def w24_L2 (x0 : AV) (st0 : St) : Car → Option (Car ⊕ Nat × Car) := fun c26 => unc (Prod.fst c26) fun v27 l28 => un0 l28 (fldA 0 v27 fun v29 => loadS 1 false v29 (Prod.snd c26) fun v30 _x => asI .u8 v30
 fun n32 => ifB (n32 != 0) (letSt (St.add (Prod.snd c26) (VM.Obj.cells 27 [AV.int .u8 0, AV.int .u8 0, AV.str [], AV.nils])) fun st33 => callS (orc vE) 38 [x0, AV.sl 1 [AV.str [108, 101, 116]] Perm.shut] st33 fun v34
 st35 _x => asB v34 fun b37 => bindO (ifB b37 (callS (orc vE) 39 [x0] st35 fun v38 st39 _x => unA v38 fun l42 => unc l42 fun v43 l44 => asI .u8 v43 fun n45 => unc l44 fun v46 l47 => asI .u8 v46 fun n48 => unc l47 fun v49
 l50 => asS v49 fun l51 => unc l50 fun v52 l53 => un0 l53 (asOne v52 (asOne v52 (fit1 v52 fun v54 => callS (orc vE) 40 [x0] st39 fun v55 st56 _x => elemsS v55 fun l58 => fitTs true l58 fun l59 => chk (sizesOk 4 l59)
 (appS 4 56 27 (AV.sl 4 [AV.agg [AV.int .u8 n45, AV.int .u8 n48, AV.str l51, v54]] Perm.shut) l59 st56 fun v60 st61 _x => asOne v60 (asOne v60 (storeS (orc vE) 4 (AV.mp (St.h (Prod.snd c26)) 0) (AV.agg [AV.int .u8 5,
 AV.int .u8 0, AV.str [], v60]) [AV.int .u8 5, AV.int .u8 0, AV.str [], v60] st61 fun _x st65 _x_1 => some ([], st65)))))))) (storeS (orc vE) 1 (AV.mp (St.h (Prod.snd c26)) 0) (AV.int .u8 3) [AV.int .u8 3] st35 fun _x
 st68 _x_1 => callS (orc vE) 37 [x0] st68 fun v70 st71 _x => unT v70 fun l73 => nthS l73 0 fun v74 => unA v74 fun l76 => unc l76 fun v77 l78 => asI .u8 v77 fun n79 => unc l78 fun v80 l81 => asS v80 fun l82 => un0 l81
 (unT v70 fun l83 => nthS l83 1 fun v84 => asI .i64 v84 fun _x => letSt (St.add st71 (VM.Obj.cells 24 [AV.int .u8 0, AV.str []])) fun st86 => storeS (orc vE) 2 (AV.mp (St.h st71) 0) (AV.agg [AV.int .u8 n79, AV.str l82])
 [AV.int .u8 n79, AV.str l82] st86 fun _x st88 _x_2 => bindO (loopO (w24_L1 x0 c26) ([AV.mp (St.h st71) 0], st88)) fun c164 => un0 (Prod.fst (Prod.snd c164)) (some ([], Prod.snd (Prod.snd c164)))))) fun c165 => un0
 (Prod.fst c165) (loadS 1 false (AV.mp (St.h st0) 3) (Prod.snd c165) fun v166 _x => loadS 4 true (AV.mp (St.h (Prod.snd c26)) 0) (Prod.snd c165) fun v168 _x => unA v168 fun l171 => unc l171 fun v172 l173 => asI .u8 v172
 fun n174 => unc l173 fun v175 l176 => asI .u8 v175 fun n177 => unc l176 fun v178 l179 => asS v178 fun l180 => unc l179 fun v181 l182 => un0 l182 (asOne v181 (asOne v181 (fit1 v181 fun v183 => asOne v183 (fit1 v183 fun
 v184 => appS 4 56 27 v166 [AV.agg [AV.int .u8 n174, AV.int .u8 n177, AV.str l180, v184]] (Prod.snd c165) fun v185 st186 _x => asOne v185 (asOne v185 (storeS (orc vE) 1 (AV.mp (St.h st0) 3) v185 [v185] st186 fun _x st189
 _x_1 => loadS 2 true v27 st189 fun v191 _x => unA v191 fun l194 => unc l194 fun v195 l196 => asI .u8 v195 fun n197 => unc l196 fun v198 l199 => asS v198 fun l200 => un0 l199 (letSt (St.add st189 (VM.Obj.cells 24 [AV.int
 .u8 0, AV.str []])) fun st201 => storeS (orc vE) 2 (AV.mp (St.h st189) 0) (AV.agg [AV.int .u8 n197, AV.str l200]) [AV.int .u8 n197, AV.str l200] st201 fun _x st203 _x_2 => callS (orc vE) 37 [x0] st203 fun v205 st206 _x
 => unT v205 fun l208 => nthS l208 0 fun v209 => unA v209 fun l211 => unc l211 fun v212 l213 => asI .u8 v212 fun n214 => unc l213 fun v215 l216 => asS v215 fun l217 => un0 l216 (unT v205 fun l218 => nthS l218 1 fun v219
 => asI .i64 v219 fun _x => storeS (orc vE) 2 (AV.mp (St.h st189) 0) (AV.agg [AV.int .u8 n214, AV.str l217]) [AV.int .u8 n214, AV.str l217] st206 fun _x st222 _x_3 => some (Sum.inl ([AV.mp (St.h st189) 0],
 st222)))))))))))) (some (Sum.inr (0, [], Prod.snd c26))))
noncomputable def w24 : AV → St → Option (AV × St) := fun x0 st => letSt (St.add st (VM.Obj.cells 27 [AV.int .u8 0, AV.int .u8 0, AV.str [], AV.nils])) fun st0 => letSt (St.add st0 (VM.Obj.cells 27 [AV.int .u8 0, AV.int
 .u8 0, AV.str [], AV.nils])) fun st2 => storeS (orc vE) 4 (AV.mp (St.h st0) 0) (AV.agg [AV.int .u8 4, AV.int .u8 0, AV.str [], AV.nils]) [AV.int .u8 4, AV.int .u8 0, AV.str [], AV.nils] st2 fun _x st4 _x_1 => callS (orc
 vE) 37 [x0] st4 fun v6 st7 _x => unT v6 fun l9 => nthS l9 0 fun v10 => unA v10 fun l12 => unc l12 fun v13 l14 => asI .u8 v13 fun n15 => unc l14 fun v16 l17 => asS v16 fun l18 => un0 l17 (unT v6 fun l19 => nthS l19 1 fun
 v20 => asI .i64 v20 fun _x => letSt (St.add st7 (VM.Obj.cells 24 [AV.int .u8 0, AV.str []])) fun st22 => storeS (orc vE) 2 (AV.mp (St.h st7) 0) (AV.agg [AV.int .u8 n15, AV.str l18]) [AV.int .u8 n15, AV.str l18] st22 fun
 _x st24 _x_2 => bindO (loopO (w24_L2 x0 st0) ([AV.mp (St.h st7) 0], st24)) fun c224 => un0 (Prod.fst (Prod.snd c224)) (loadS 1 false (AV.mp (St.h st0) 3) (Prod.snd (Prod.snd c224)) fun v225 l226 => callS (orc vE) 39
 [x0] (Prod.snd (Prod.snd c224)) fun v227 st228 x229 => unA v227 fun l231 => unc l231 fun v232 l233 => asI .u8 v232 fun n234 => unc l233 fun v235 l236 => asI .u8 v235 fun n237 => unc l236 fun v238 l239 => asS v238 fun
 l240 => unc l239 fun v241 l242 => un0 l242 (chk (apart (Fx.mk l226 Did.kept) x229 && (apart (Fx.mk [] Did.kept) x229 && true)) (asOne v241 (asOne v241 (fit1 v241 fun v243 => asOne v243 (fit1 v243 fun v244 => appS 4 56
 27 v225 [AV.agg [AV.int .u8 n234, AV.int .u8 n237, AV.str l240, v244]] st228 fun v245 st246 _x => asOne v245 (asOne v245 (storeS (orc vE) 1 (AV.mp (St.h st0) 3) v245 [v245] st246 fun _x st249 _x_3 => loadS 4 true (AV.mp
 (St.h st0) 0) st249 fun v251 _x => unA v251 fun l254 => unc l254 fun v255 l256 => asI .u8 v255 fun n257 => unc l256 fun v258 l259 => asI .u8 v258 fun n260 => unc l259 fun v261 l262 => asS v261 fun l263 => unc l262 fun
 v264 l265 => un0 l265 (asOne v264 (storeS (orc vE) 4 (AV.mp (St.h st) 0) (AV.agg [AV.int .u8 n257, AV.int .u8 n260, AV.str l263, v264]) [AV.int .u8 n257, AV.int .u8 n260, AV.str l263, v264] st249 fun _x st267 _x_4 =>
 loadS 4 true (AV.mp (St.h st) 0) st267 fun v269 _x => unA v269 fun l272 => unc l272 fun v273 l274 => asI .u8 v273 fun n275 => unc l274 fun v276 l277 => asI .u8 v276 fun n278 => unc l277 fun v279 l280 => asS v279 fun
 l281 => unc l280 fun v282 l283 => un0 l283 (some (AV.agg [AV.int .u8 n275, AV.int .u8 n278, AV.str l281, v282], st267)))))))))))))
theorem w24_eq (x0 : AV) (st : St) : wideS vE 24 [x0] st = w24 x0 st := by kernel_rfl
/-- (*rostrum/parse.parser).next -/
noncomputable def w37_L1 (x0 : AV) (st : St) : Car → Option (Car ⊕ Nat × Car) := fun c5 => unc (Prod.fst c5) fun v6 l7 => asI .i64 v6 fun n8 => unc l7 fun v9 l10 => asI .i64 v9 fun n11 => un0 l10 (chk (notNil x0) (fldA
 0 x0 fun v12 => loadS 1 false v12 (Prod.snd c5) fun v13 _x => lenS v13 fun k15 => ifB (decide (n11 < (↑k15 : Int))) (chk (notNil x0) (fldA 0 x0 fun v16 => loadS 1 false v16 (Prod.snd c5) fun v17 _x => idxA 2 v17 n11
 (Prod.snd c5) fun v19 _x => loadS 2 true v19 (Prod.snd c5) fun v21 _x => unA v21 fun l24 => unc l24 fun v25 l26 => asI .u8 v25 fun n27 => unc l26 fun v28 l29 => asS v28 fun l30 => un0 l29 (callS (orc vE) 56 [AV.agg
 [AV.int .u8 n27, AV.str l30]] (Prod.snd c5) fun v31 st32 _x => asB v31 fun b34 => ifB (!b34) (chk (notNil x0) (fldA 0 x0 fun v35 => loadS 1 false v35 st32 fun v36 _x => idxA 2 v36 n11 st32 fun v38 _x => loadS 2 true v38
 st32 fun v40 _x => unA v40 fun l43 => unc l43 fun v44 l45 => asI .u8 v44 fun n46 => unc l45 fun v47 l48 => asS v47 fun l49 => un0 l48 (storeS (orc vE) 2 (AV.mp (St.h st) 0) (AV.agg [AV.int .u8 n46, AV.str l49]) [AV.int
 .u8 n46, AV.str l49] st32 fun _x st51 _x_1 => some (Sum.inr (1, [AV.int .i64 n11], st51))))) (letV (IntKind.wrap .i64 (n11 + 1)) fun n53 => some (Sum.inl ([AV.int .i64 n8, AV.int .i64 n53], st32)))))) (some (Sum.inr (0,
 [AV.int .i64 n8], Prod.snd c5)))))
noncomputable def w37 : AV → St → Option (AV × St) := fun x0 st => letSt (St.add st (VM.Obj.cells 24 [AV.int .u8 0, AV.str []])) fun st0 => chk (notNil x0) (fldA 1 x0 fun v1 => loadS 1 false v1 st0 fun v2 _x => asI .i64
 v2 fun n4 => bindO (loopO (w37_L1 x0 st) ([AV.int .i64 0, AV.int .i64 n4], st0)) fun c54 => unc (Prod.fst (Prod.snd c54)) fun v55 l56 => asI .i64 v55 fun n57 => un0 l56 (sel2 (Prod.fst c54) (chk (notNil x0) (fldA 0 x0
 fun v59 => loadS 1 false v59 (Prod.snd (Prod.snd c54)) fun v60 l61 => lenS v60 fun k62 => storeS (orc vE) 2 (AV.mp (St.h st) 0) (AV.agg [AV.int .u8 0, AV.str []]) [AV.int .u8 0, AV.str []] (Prod.snd (Prod.snd c54)) fun
 _x st64 x65 => chk (apart (Fx.mk [] Did.kept) x65 && (apart (Fx.mk l61 Did.kept) x65 && (apart (Fx.mk [] Did.kept) x65 && (apart (Fx.mk [] Did.kept) x65 && (apart (Fx.mk [] Did.kept) x65 && true))))) (loadS 2 true
 (AV.mp (St.h st) 0) st64 fun v66 _x => unA v66 fun l69 => unc l69 fun v70 l71 => asI .u8 v70 fun n72 => unc l71 fun v73 l74 => asS v73 fun l75 => un0 l74 (some (AV.tup [AV.agg [AV.int .u8 n72, AV.str l75], AV.int .i64
 (↑k62 : Int)], st64))))) fun _x => loadS 2 true (AV.mp (St.h st) 0) (Prod.snd (Prod.snd c54)) fun v77 _x => unA v77 fun l80 => unc l80 fun v81 l82 => asI .u8 v81 fun n83 => unc l82 fun v84 l85 => asS v84 fun l86 => un0
 l85 (some (AV.tup [AV.agg [AV.int .u8 n83, AV.str l86], AV.int .i64 n57], Prod.snd (Prod.snd c54)))))
theorem w37_eq (x0 : AV) (st : St) : wideS vE 37 [x0] st = w37 x0 st := by kernel_rfl
/-- (*rostrum/parse.parser).is -/
noncomputable def w38 : AV → AV → St → Option (AV × St) := fun x0 x1 st => callS (orc vE) 37 [x0] st fun v0 st1 _x => unT v0 fun l3 => nthS l3 0 fun v4 => unA v4 fun l6 => unc l6 fun v7 l8 => asI .u8 v7 fun n9 => unc l8
 fun v10 l11 => asS v10 fun l12 => un0 l11 (unT v0 fun l13 => nthS l13 1 fun v14 => asI .i64 v14 fun _x => letSt (St.add st1 (VM.Obj.cells 24 [AV.int .u8 0, AV.str []])) fun st16 => storeS (orc vE) 2 (AV.mp (St.h st1) 0)
 (AV.agg [AV.int .u8 n9, AV.str l12]) [AV.int .u8 n9, AV.str l12] st16 fun _x st18 _x_1 => bindO (loadS 1 false (AV.mp (St.h st1) 0) st18 fun v20 _x => asI .u8 v20 fun n22 => ifB (n22 == 3) (loadS 1 false (AV.mp (St.h
 st1) 1) st18 fun v23 _x => asS v23 fun l25 => callS (orc vE) 57 [x1, AV.str l25] st18 fun v26 st27 _x => asB v26 fun b29 => some ([AV.bool b29], st27)) (loadS 1 false (AV.mp (St.h st1) 0) st18 fun v30 _x => asI .u8 v30
 fun n32 => ifB (n32 == 8) (loadS 1 false (AV.mp (St.h st1) 1) st18 fun v33 _x => asS v33 fun l35 => callS (orc vE) 57 [x1, AV.str l35] st18 fun v36 st37 _x => asB v36 fun b39 => some ([AV.bool b39], st37)) (some
 ([AV.bool false], st18)))) fun c40 => unc (Prod.fst c40) fun v41 l42 => asB v41 fun b43 => un0 l42 (some (AV.bool b43, Prod.snd c40)))
theorem w38_eq (x0 x1 : AV) (st : St) : wideS vE 38 [x0, x1] st = w38 x0 x1 st := by kernel_rfl
/-- (*rostrum/parse.parser).take -/
noncomputable def w39_L1 (st19 : St) (v43 : AV) (k44 : Nat) : Car → Option (Car ⊕ Nat × Car) := fun c45 => unc (Prod.fst c45) fun v46 l47 => asI .i64 v46 fun n48 => un0 l47 (ifB (decide (n48 < (↑k44 : Int))) (idxA 2 v43
 n48 (Prod.snd c45) fun v49 _x => loadS 2 true v49 (Prod.snd c45) fun v51 _x => unA v51 fun l54 => unc l54 fun v55 l56 => asI .u8 v55 fun n57 => unc l56 fun v58 l59 => asS v58 fun l60 => un0 l59 (letSt (St.add (Prod.snd
 c45) (VM.Obj.cells 24 [AV.int .u8 0, AV.str []])) fun st61 => storeS (orc vE) 2 (AV.mp (St.h (Prod.snd c45)) 0) (AV.agg [AV.int .u8 n57, AV.str l60]) [AV.int .u8 n57, AV.str l60] st61 fun _x st63 _x_1 => loadS 1 false
 (AV.mp (St.h st19) 3) st63 fun v65 _x => loadS 2 true (AV.mp (St.h (Prod.snd c45)) 0) st63 fun v67 _x => unA v67 fun l70 => unc l70 fun v71 l72 => asI .u8 v71 fun n73 => unc l72 fun v74 l75 => asS v74 fun l76 => un0 l75
 (appS 4 56 27 v65 [AV.agg [AV.int .u8 1, AV.int .u8 n73, AV.str l76, AV.nils]] st63 fun v78 st79 _x => asOne v78 (asOne v78 (storeS (orc vE) 1 (AV.mp (St.h st19) 3) v78 [v78] st79 fun _x st82 _x_2 => letV (IntKind.wrap
 .i64 (n48 + 1)) fun n84 => some (Sum.inl ([AV.int .i64 n84], st82))))))) (some (Sum.inr (0, [], Prod.snd c45))))
noncomputable def w39 : AV → St → Option (AV × St) := fun x0 st => letSt (St.add st (VM.Obj.cells 27 [AV.int .u8 0, AV.int .u8 0, AV.str [], AV.nils])) fun st0 => callS (orc vE) 37 [x0] st0 fun v1 st2 _x => unT v1 fun
 l4 => nthS l4 0 fun v5 => unA v5 fun l7 => unc l7 fun v8 l9 => asI .u8 v8 fun n10 => unc l9 fun v11 l12 => asS v11 fun l13 => un0 l12 (unT v1 fun l14 => nthS l14 1 fun v15 => asI .i64 v15 fun n16 => letSt (St.add st2
 (VM.Obj.cells 24 [AV.int .u8 0, AV.str []])) fun st17 => storeS (orc vE) 2 (AV.mp (St.h st2) 0) (AV.agg [AV.int .u8 n10, AV.str l13]) [AV.int .u8 n10, AV.str l13] st17 fun _x st19 _x_1 => loadS 2 true (AV.mp (St.h st2)
 0) st19 fun v21 _x => unA v21 fun l24 => unc l24 fun v25 l26 => asI .u8 v25 fun n27 => unc l26 fun v28 l29 => asS v28 fun l30 => un0 l29 (letSt (St.add st19 (VM.Obj.cells 27 [AV.int .u8 0, AV.int .u8 0, AV.str [],
 AV.nils])) fun st32 => storeS (orc vE) 4 (AV.mp (St.h st19) 0) (AV.agg [AV.int .u8 1, AV.int .u8 n27, AV.str l30, AV.nils]) [AV.int .u8 1, AV.int .u8 n27, AV.str l30, AV.nils] st32 fun _x st34 _x_2 => chk (notNil x0)
 (fldA 0 x0 fun v36 => loadS 1 false v36 st34 fun v37 _x => chk (notNil x0) (fldA 1 x0 fun v39 => loadS 1 false v39 st34 fun v40 _x => asI .i64 v40 fun n42 => sliceS 2 v37 (some n42) (some n16) none fun v43 => lenS v43
 fun k44 => bindO (loopO (w39_L1 st19 v43 k44) ([AV.int .i64 0], st34)) fun c85 => un0 (Prod.fst (Prod.snd c85)) (letV (IntKind.wrap .i64 (n16 + 1)) fun n86 => chk (notNil x0) (fldA 0 x0 fun v87 => loadS 1 false v87
 (Prod.snd (Prod.snd c85)) fun v88 _x => lenS v88 fun k90 => letV (if (↑k90 : Int) < n86 then (↑k90 : Int) else n86) fun n91 => chk (notNil x0) (fldA 1 x0 fun v92 => storeS (orc vE) 1 v92 (AV.int .i64 n91) [AV.int .i64
 n91] (Prod.snd (Prod.snd c85)) fun _x st94 _x_3 => loadS 4 true (AV.mp (St.h st19) 0) st94 fun v96 _x => unA v96 fun l99 => unc l99 fun v100 l101 => asI .u8 v100 fun n102 => unc l101 fun v103 l104 => asI .u8 v103 fun
 n105 => unc l104 fun v106 l107 => asS v106 fun l108 => unc l107 fun v109 l110 => un0 l110 (asOne v109 (storeS (orc vE) 4 (AV.mp (St.h st) 0) (AV.agg [AV.int .u8 n102, AV.int .u8 n105, AV.str l108, v109]) [AV.int .u8
 n102, AV.int .u8 n105, AV.str l108, v109] st94 fun _x st112 _x_4 => loadS 4 true (AV.mp (St.h st) 0) st112 fun v114 _x => unA v114 fun l117 => unc l117 fun v118 l119 => asI .u8 v118 fun n120 => unc l119 fun v121 l122 =>
 asI .u8 v121 fun n123 => unc l122 fun v124 l125 => asS v124 fun l126 => unc l125 fun v127 l128 => un0 l128 (some (AV.agg [AV.int .u8 n120, AV.int .u8 n123, AV.str l126, v127], st112)))))))))))
theorem w39_eq (x0 : AV) (st : St) : wideS vE 39 [x0] st = w39 x0 st := by kernel_rfl
/-- (*rostrum/parse.parser).binding -/
noncomputable def w40_L1 (x0 : AV) : Car → Option (Car ⊕ Nat × Car) := fun c70 => unc (Prod.fst c70) fun v71 l72 => un0 l72 (callS (orc vE) 58 [x0, AV.int .u8 5, AV.str [95]] (Prod.snd c70) fun v73 st74 _x => asB v73
 fun b76 => ifB b76 (callS (orc vE) 59 [x0, AV.bool true] st74 fun v77 st78 _x => unA v77 fun l81 => unc l81 fun v82 l83 => asI .u8 v82 fun n84 => unc l83 fun v85 l86 => asI .u8 v85 fun n87 => unc l86 fun v88 l89 => asS
 v88 fun l90 => unc l89 fun v91 l92 => un0 l92 (asOne v91 (asOne v91 (fit1 v91 fun v93 => asOne v93 (fit1 v93 fun v94 => appS 4 56 27 v71 [AV.agg [AV.int .u8 n84, AV.int .u8 n87, AV.str l90, v94]] st78 fun v95 st96 _x =>
 some (Sum.inl ([v95], st96))))))) (some (Sum.inr (0, [v71], st74))))
noncomputable def w40 : AV → St → Option (AV × St) := fun x0 st => callS (orc vE) 38 [x0, AV.sl 1 [AV.str [114, 101, 99]] Perm.shut] st fun v0 st1 _x => asB v0 fun b3 => bindO (ifB b3 (callS (orc vE) 39 [x0] st1 fun v4
 st5 _x => unA v4 fun l8 => unc l8 fun v9 l10 => asI .u8 v9 fun n11 => unc l10 fun v12 l13 => asI .u8 v12 fun n14 => unc l13 fun v15 l16 => asS v15 fun l17 => unc l16 fun v18 l19 => un0 l19 (asOne v18 (asOne v18 (fit1
 v18 fun v20 => asOne v20 (fit1 v20 fun v21 => letSt (St.add st5 (Obj.tok 1 27)) fun st22 => some ([AV.sl 4 [AV.agg [AV.int .u8 n11, AV.int .u8 n14, AV.str l17, v21]] (Perm.own (St.h st5))], st22)))))) (some ([AV.nils],
 st1))) fun c23 => unc (Prod.fst c23) fun v24 l25 => un0 l25 (callS (orc vE) 37 [x0] (Prod.snd c23) fun v26 st27 _x => unT v26 fun l29 => nthS l29 0 fun v30 => unA v30 fun l32 => unc l32 fun v33 l34 => asI .u8 v33 fun
 n35 => unc l34 fun v36 l37 => asS v36 fun l38 => un0 l37 (unT v26 fun l39 => nthS l39 1 fun v40 => asI .i64 v40 fun _x => letSt (St.add st27 (VM.Obj.cells 24 [AV.int .u8 0, AV.str []])) fun st42 => storeS (orc vE) 2
 (AV.mp (St.h st27) 0) (AV.agg [AV.int .u8 n35, AV.str l38]) [AV.int .u8 n35, AV.str l38] st42 fun _x st44 _x_1 => loadS 1 false (AV.mp (St.h st27) 0) st44 fun v46 _x => asI .u8 v46 fun n48 => bindO (ifB (n48 == 4)
 (callS (orc vE) 39 [x0] st44 fun v49 st50 _x => unA v49 fun l53 => unc l53 fun v54 l55 => asI .u8 v54 fun n56 => unc l55 fun v57 l58 => asI .u8 v57 fun n59 => unc l58 fun v60 l61 => asS v60 fun l62 => unc l61 fun v63
 l64 => un0 l64 (asOne v63 (asOne v63 (fit1 v63 fun v65 => asOne v65 (fit1 v65 fun v66 => appS 4 56 27 v24 [AV.agg [AV.int .u8 n56, AV.int .u8 n59, AV.str l62, v66]] st50 fun v67 st68 _x => bindO (loopO (w40_L1 x0)
 ([v67], st68)) fun c98 => unc (Prod.fst (Prod.snd c98)) fun v99 l100 => un0 l100 (some ([v99], Prod.snd (Prod.snd c98)))))))) (callS (orc vE) 59 [x0, AV.bool true] st44 fun v101 st102 _x => unA v101 fun l105 => unc l105
 fun v106 l107 => asI .u8 v106 fun n108 => unc l107 fun v109 l110 => asI .u8 v109 fun n111 => unc l110 fun v112 l113 => asS v112 fun l114 => unc l113 fun v115 l116 => un0 l116 (asOne v115 (asOne v115 (fit1 v115 fun v117
 => asOne v117 (fit1 v117 fun v118 => appS 4 56 27 v24 [AV.agg [AV.int .u8 n108, AV.int .u8 n111, AV.str l114, v118]] st102 fun v119 st120 _x => some ([v119], st120))))))) fun c122 => unc (Prod.fst c122) fun v123 l124 =>
 un0 l124 (callS (orc vE) 60 [x0, AV.str [61]] (Prod.snd c122) fun v125 st126 _x => unA v125 fun l129 => unc l129 fun v130 l131 => asI .u8 v130 fun n132 => unc l131 fun v133 l134 => asI .u8 v133 fun n135 => unc l134 fun
 v136 l137 => asS v136 fun l138 => unc l137 fun v139 l140 => un0 l140 (callS (orc vE) 61 [x0] st126 fun v141 st142 _x => unA v141 fun l145 => unc l145 fun v146 l147 => asI .u8 v146 fun n148 => unc l147 fun v149 l150 =>
 asI .u8 v149 fun n151 => unc l150 fun v152 l153 => asS v152 fun l154 => unc l153 fun v155 l156 => un0 l156 (asOne v139 (asOne v155 (asOne v139 (fit1 v139 fun v157 => asOne v155 (fit1 v155 fun v158 => asOne v157 (fit1
 v157 fun v159 => asOne v158 (fit1 v158 fun v160 => appS 4 56 27 v123 [AV.agg [AV.int .u8 n132, AV.int .u8 n135, AV.str l138, v159], AV.agg [AV.int .u8 n148, AV.int .u8 n151, AV.str l154, v160]] st142 fun v161 st162 _x
 => some (oneOf [v161], st162))))))))))))
theorem w40_eq (x0 : AV) (st : St) : wideS vE 40 [x0] st = w40 x0 st := by kernel_rfl
/-- (*rostrum/parse.parser).begins -/
noncomputable def w58 : AV → AV → AV → St → Option (AV × St) := fun x0 x1 x2 st => asI .u8 x1 fun n0 => asS x2 fun l1 => callS (orc vE) 37 [x0] st fun v2 st3 _x => unT v2 fun l5 => nthS l5 0 fun v6 => unA v6 fun l8 =>
 unc l8 fun v9 l10 => asI .u8 v9 fun n11 => unc l10 fun v12 l13 => asS v12 fun l14 => un0 l13 (unT v2 fun l15 => nthS l15 1 fun v16 => asI .i64 v16 fun _x => letSt (St.add st3 (VM.Obj.cells 24 [AV.int .u8 0, AV.str []]))
 fun st18 => storeS (orc vE) 2 (AV.mp (St.h st3) 0) (AV.agg [AV.int .u8 n11, AV.str l14]) [AV.int .u8 n11, AV.str l14] st18 fun _x st20 _x_1 => loadS 1 false (AV.mp (St.h st3) 0) st20 fun v22 _x => asI .u8 v22 fun n24 =>
 bindO (ifB (n24 == 4) (some ([AV.bool (n24 == 4)], st20)) (bindO (ifB (n24 == 5) (some ([AV.bool (n24 == 5)], st20)) (bindO (ifB (n24 == 7) (some ([AV.bool (n24 == 7)], st20)) (bindO (ifB (n24 == 9) (some ([AV.bool (n24
 == 9)], st20)) (some ([AV.bool (n24 == n0)], st20))) fun c25 => unc (Prod.fst c25) fun v26 l27 => asB v26 fun b28 => un0 l27 (some ([AV.bool b28], Prod.snd c25)))) fun c29 => unc (Prod.fst c29) fun v30 l31 => asB v30
 fun b32 => un0 l31 (some ([AV.bool b32], Prod.snd c29)))) fun c33 => unc (Prod.fst c33) fun v34 l35 => asB v34 fun b36 => un0 l35 (some ([AV.bool b36], Prod.snd c33)))) fun c37 => unc (Prod.fst c37) fun v38 l39 => asB
 v38 fun b40 => un0 l39 (ifB b40 (some (AV.bool true, Prod.snd c37)) (callS (orc vE) 38 [x0, AV.sl 1 [AV.str [116, 114, 117, 101], AV.str [102, 97, 108, 115, 101], AV.str [40], AV.str [91], AV.str l1] Perm.shut]
 (Prod.snd c37) fun v41 st42 _x => asB v41 fun b44 => some (AV.bool b44, st42))))
theorem w58_eq (x0 x1 x2 : AV) (st : St) : wideS vE 58 [x0, x1, x2] st = w58 x0 x1 x2 st := by kernel_rfl
/-- (*rostrum/parse.parser).atom -/
noncomputable def w59 : AV → AV → St → Option (AV × St) := fun x0 x1 st => asB x1 fun b0 => letSt (St.add st (VM.Obj.cells 27 [AV.int .u8 0, AV.int .u8 0, AV.str [], AV.nils])) fun st1 => bindO (ifB b0 (some ([AV.str
 [112, 97, 116, 116, 101, 114, 110], AV.int .u8 17, AV.int .u8 18, AV.str [95], AV.fn (Fn.func 88) [x0] [], AV.int .u8 5], st1)) (some ([AV.str [101, 120, 112, 114], AV.int .u8 14, AV.int .u8 15, AV.str [40], AV.fn
 (Fn.func 61) [x0] [], AV.int .u8 6], st1))) fun c2 => unc (Prod.fst c2) fun v3 l4 => asS v3 fun l5 => unc l4 fun v6 l7 => asI .u8 v6 fun n8 => unc l7 fun v9 l10 => asI .u8 v9 fun n11 => unc l10 fun v12 l13 => asS v12
 fun l14 => unc l13 fun v15 l16 => unc l16 fun v17 l18 => asI .u8 v17 fun n19 => un0 l18 (callS (orc vE) 37 [x0] (Prod.snd c2) fun v20 st21 _x => unT v20 fun l23 => nthS l23 0 fun v24 => unA v24 fun l26 => unc l26 fun
 v27 l28 => asI .u8 v27 fun n29 => unc l28 fun v30 l31 => asS v30 fun l32 => un0 l31 (unT v20 fun l33 => nthS l33 1 fun v34 => asI .i64 v34 fun _x => letSt (St.add st21 (VM.Obj.cells 24 [AV.int .u8 0, AV.str []])) fun
 st36 => storeS (orc vE) 2 (AV.mp (St.h st21) 0) (AV.agg [AV.int .u8 n29, AV.str l32]) [AV.int .u8 n29, AV.str l32] st36 fun _x st38 _x_1 => callS (orc vE) 58 [x0, AV.int .u8 n19, AV.str l14] st38 fun v40 st41 _x => asB
 v40 fun b43 => ifB (!b43) (callS (orc vE) 89 [AV.str l5] st41 fun v44 st45 _x => unA v44 fun l48 => unc l48 fun v49 l50 => asI .u8 v49 fun n51 => unc l50 fun v52 l53 => asI .u8 v52 fun n54 => unc l53 fun v55 l56 => asS
 v55 fun l57 => unc l56 fun v58 l59 => un0 l59 (asOne v58 (storeS (orc vE) 4 (AV.mp (St.h st) 0) (AV.agg [AV.int .u8 n51, AV.int .u8 n54, AV.str l57, v58]) [AV.int .u8 n51, AV.int .u8 n54, AV.str l57, v58] st45 fun _x
 st61 _x_2 => loadS 4 true (AV.mp (St.h st) 0) st61 fun v63 _x => unA v63 fun l66 => unc l66 fun v67 l68 => asI .u8 v67 fun n69 => unc l68 fun v70 l71 => asI .u8 v70 fun n72 => unc l71 fun v73 l74 => asS v73 fun l75 =>
 unc l74 fun v76 l77 => un0 l77 (some (AV.agg [AV.int .u8 n69, AV.int .u8 n72, AV.str l75, v76], st61))))) (loadS 1 false (AV.mp (St.h st21) 0) st41 fun v78 _x => asI .u8 v78 fun n80 => ifB (n80 == 9) (callS (orc vE) 39
 [x0] st41 fun v81 st82 _x => unA v81 fun l85 => unc l85 fun v86 l87 => asI .u8 v86 fun n88 => unc l87 fun v89 l90 => asI .u8 v89 fun n91 => unc l90 fun v92 l93 => asS v92 fun l94 => unc l93 fun v95 l96 => un0 l96 (asOne
 v95 (asOne v95 (fit1 v95 fun v97 => storeS (orc vE) 4 (AV.mp (St.h st) 0) (AV.agg [AV.int .u8 3, AV.int .u8 0, AV.str [], AV.sl 4 [AV.agg [AV.int .u8 n88, AV.int .u8 n91, AV.str l94, v97]] Perm.shut]) [AV.int .u8 3,
 AV.int .u8 0, AV.str [], AV.sl 4 [AV.agg [AV.int .u8 n88, AV.int .u8 n91, AV.str l94, v97]] Perm.shut] st82 fun _x st100 _x_2 => loadS 4 true (AV.mp (St.h st) 0) st100 fun v102 _x => unA v102 fun l105 => unc l105 fun
 v106 l107 => asI .u8 v106 fun n108 => unc l107 fun v109 l110 => asI .u8 v109 fun n111 => unc l110 fun v112 l113 => asS v112 fun l114 => unc l113 fun v115 l116 => un0 l116 (some (AV.agg [AV.int .u8 n108, AV.int .u8 n111,
 AV.str l114, v115], st100)))))) (callS (orc vE) 38 [x0, AV.sl 1 [AV.str [40]] Perm.shut] st41 fun v117 st118 _x => asB v117 fun b120 => ifB b120 (callS (orc vE) 90 [x0, AV.int .u8 n8, AV.str [44], AV.str [41], v15]
 st118 fun v121 st122 _x => unA v121 fun l125 => unc l125 fun v126 l127 => asI .u8 v126 fun n128 => unc l127 fun v129 l130 => asI .u8 v129 fun n131 => unc l130 fun v132 l133 => asS v132 fun l134 => unc l133 fun v135 l136
 => un0 l136 (asOne v135 (storeS (orc vE) 4 (AV.mp (St.h st) 0) (AV.agg [AV.int .u8 n128, AV.int .u8 n131, AV.str l134, v135]) [AV.int .u8 n128, AV.int .u8 n131, AV.str l134, v135] st122 fun _x st138 _x_2 => loadS 4 true
 (AV.mp (St.h st) 0) st138 fun v140 _x => unA v140 fun l143 => unc l143 fun v144 l145 => asI .u8 v144 fun n146 => unc l145 fun v147 l148 => asI .u8 v147 fun n149 => unc l148 fun v150 l151 => asS v150 fun l152 => unc l151
 fun v153 l154 => un0 l154 (some (AV.agg [AV.int .u8 n146, AV.int .u8 n149, AV.str l152, v153], st138))))) (callS (orc vE) 38 [x0, AV.sl 1 [AV.str [91]] Perm.shut] st118 fun v155 st156 _x => asB v155 fun b158 => ifB b158
 (callS (orc vE) 90 [x0, AV.int .u8 n11, AV.str [59], AV.str [93], v15] st156 fun v159 st160 _x => unA v159 fun l163 => unc l163 fun v164 l165 => asI .u8 v164 fun n166 => unc l165 fun v167 l168 => asI .u8 v167 fun n169
 => unc l168 fun v170 l171 => asS v170 fun l172 => unc l171 fun v173 l174 => un0 l174 (asOne v173 (storeS (orc vE) 4 (AV.mp (St.h st) 0) (AV.agg [AV.int .u8 n166, AV.int .u8 n169, AV.str l172, v173]) [AV.int .u8 n166,
 AV.int .u8 n169, AV.str l172, v173] st160 fun _x st176 _x_2 => loadS 4 true (AV.mp (St.h st) 0) st176 fun v178 _x => unA v178 fun l181 => unc l181 fun v182 l183 => asI .u8 v182 fun n184 => unc l183 fun v185 l186 => asI
 .u8 v185 fun n187 => unc l186 fun v188 l189 => asS v188 fun l190 => unc l189 fun v191 l192 => un0 l192 (some (AV.agg [AV.int .u8 n184, AV.int .u8 n187, AV.str l190, v191], st176))))) (callS (orc vE) 39 [x0] st156 fun
 v193 st194 _x => unA v193 fun l197 => unc l197 fun v198 l199 => asI .u8 v198 fun n200 => unc l199 fun v201 l202 => asI .u8 v201 fun n203 => unc l202 fun v204 l205 => asS v204 fun l206 => unc l205 fun v207 l208 => un0
 l208 (asOne v207 (storeS (orc vE) 4 (AV.mp (St.h st) 0) (AV.agg [AV.int .u8 n200, AV.int .u8 n203, AV.str l206, v207]) [AV.int .u8 n200, AV.int .u8 n203, AV.str l206, v207] st194 fun _x st210 _x_2 => loadS 4 true (AV.mp
 (St.h st) 0) st210 fun v212 _x => unA v212 fun l215 => unc l215 fun v216 l217 => asI .u8 v216 fun n218 => unc l217 fun v219 l220 => asI .u8 v219 fun n221 => unc l220 fun v222 l223 => asS v222 fun l224 => unc l223 fun
 v225 l226 => un0 l226 (some (AV.agg [AV.int .u8 n218, AV.int .u8 n221, AV.str l224, v225], st210))))))))))
theorem w59_eq (x0 x1 : AV) (st : St) : wideS vE 59 [x0, x1] st = w59 x0 x1 st := by kernel_rfl
/-- (*rostrum/parse.parser).need -/
noncomputable def w60 : AV → AV → St → Option (AV × St) := fun x0 x1 st => asS x1 fun l0 => letSt (St.add st (VM.Obj.cells 27 [AV.int .u8 0, AV.int .u8 0, AV.str [], AV.nils])) fun st1 => callS (orc vE) 38 [x0, AV.sl 1
 [AV.str l0] Perm.shut] st1 fun v2 st3 _x => asB v2 fun b5 => ifB b5 (callS (orc vE) 39 [x0] st3 fun v6 st7 _x => unA v6 fun l10 => unc l10 fun v11 l12 => asI .u8 v11 fun n13 => unc l12 fun v14 l15 => asI .u8 v14 fun n16
 => unc l15 fun v17 l18 => asS v17 fun l19 => unc l18 fun v20 l21 => un0 l21 (asOne v20 (storeS (orc vE) 4 (AV.mp (St.h st) 0) (AV.agg [AV.int .u8 n13, AV.int .u8 n16, AV.str l19, v20]) [AV.int .u8 n13, AV.int .u8 n16,
 AV.str l19, v20] st7 fun _x st23 _x_1 => loadS 4 true (AV.mp (St.h st) 0) st23 fun v25 _x => unA v25 fun l28 => unc l28 fun v29 l30 => asI .u8 v29 fun n31 => unc l30 fun v32 l33 => asI .u8 v32 fun n34 => unc l33 fun v35
 l36 => asS v35 fun l37 => unc l36 fun v38 l39 => un0 l39 (some (AV.agg [AV.int .u8 n31, AV.int .u8 n34, AV.str l37, v38], st23))))) (callS (orc vE) 89 [AV.str l0] st3 fun v40 st41 _x => unA v40 fun l44 => unc l44 fun
 v45 l46 => asI .u8 v45 fun n47 => unc l46 fun v48 l49 => asI .u8 v48 fun n50 => unc l49 fun v51 l52 => asS v51 fun l53 => unc l52 fun v54 l55 => un0 l55 (asOne v54 (storeS (orc vE) 4 (AV.mp (St.h st) 0) (AV.agg [AV.int
 .u8 n47, AV.int .u8 n50, AV.str l53, v54]) [AV.int .u8 n47, AV.int .u8 n50, AV.str l53, v54] st41 fun _x st57 _x_1 => loadS 4 true (AV.mp (St.h st) 0) st57 fun v59 _x => unA v59 fun l62 => unc l62 fun v63 l64 => asI .u8
 v63 fun n65 => unc l64 fun v66 l67 => asI .u8 v66 fun n68 => unc l67 fun v69 l70 => asS v69 fun l71 => unc l70 fun v72 l73 => un0 l73 (some (AV.agg [AV.int .u8 n65, AV.int .u8 n68, AV.str l71, v72], st57)))))
theorem w60_eq (x0 x1 : AV) (st : St) : wideS vE 60 [x0, x1] st = w60 x0 x1 st := by kernel_rfl
/-- (*rostrum/parse.parser).expr -/
noncomputable def w61 : AV → St → Option (AV × St) := fun x0 st => letSt (St.add st (VM.Obj.cells 27 [AV.int .u8 0, AV.int .u8 0, AV.str [], AV.nils])) fun st0 => callS (orc vE) 91 [x0, AV.str [101, 120, 112, 114],
 AV.fn (Fn.func 92) [x0] []] st0 fun v1 st2 _x => unA v1 fun l5 => unc l5 fun v6 l7 => asI .u8 v6 fun n8 => unc l7 fun v9 l10 => asI .u8 v9 fun n11 => unc l10 fun v12 l13 => asS v12 fun l14 => unc l13 fun v15 l16 => un0
 l16 (asOne v15 (storeS (orc vE) 4 (AV.mp (St.h st) 0) (AV.agg [AV.int .u8 n8, AV.int .u8 n11, AV.str l14, v15]) [AV.int .u8 n8, AV.int .u8 n11, AV.str l14, v15] st2 fun _x st18 _x_1 => loadS 4 true (AV.mp (St.h st) 0)
 st18 fun v20 _x => unA v20 fun l23 => unc l23 fun v24 l25 => asI .u8 v24 fun n26 => unc l25 fun v27 l28 => asI .u8 v27 fun n29 => unc l28 fun v30 l31 => asS v30 fun l32 => unc l31 fun v33 l34 => un0 l34 (some (AV.agg
 [AV.int .u8 n26, AV.int .u8 n29, AV.str l32, v33], st18))))
theorem w61_eq (x0 : AV) (st : St) : wideS vE 61 [x0] st = w61 x0 st := by kernel_rfl
/-- (*rostrum/parse.parser).pattern -/
noncomputable def w88 : AV → St → Option (AV × St) := fun x0 st => asOne x0 (asOne x0 (letSt (St.add st (VM.Obj.cells 49 [x0])) fun st0 => letSt (St.add st0 (VM.Obj.cells 27 [AV.int .u8 0, AV.int .u8 0, AV.str [],
 AV.nils])) fun st1 => loadS 1 false (AV.mp (St.h st) 0) st1 fun v2 _x => callS (orc vE) 91 [v2, AV.str [112, 97, 116, 116, 101, 114, 110], AV.fn (Fn.func 114) [] [AV.mp (St.h st) 0]] st1 fun v4 st5 _x => unA v4 fun l8
 => unc l8 fun v9 l10 => asI .u8 v9 fun n11 => unc l10 fun v12 l13 => asI .u8 v12 fun n14 => unc l13 fun v15 l16 => asS v15 fun l17 => unc l16 fun v18 l19 => un0 l19 (asOne v18 (storeS (orc vE) 4 (AV.mp (St.h st0) 0)
 (AV.agg [AV.int .u8 n11, AV.int .u8 n14, AV.str l17, v18]) [AV.int .u8 n11, AV.int .u8 n14, AV.str l17, v18] st5 fun _x st21 _x_1 => loadS 4 true (AV.mp (St.h st0) 0) st21 fun v23 _x => unA v23 fun l26 => unc l26 fun
 v27 l28 => asI .u8 v27 fun n29 => unc l28 fun v30 l31 => asI .u8 v30 fun n32 => unc l31 fun v33 l34 => asS v33 fun l35 => unc l34 fun v36 l37 => un0 l37 (some (AV.agg [AV.int .u8 n29, AV.int .u8 n32, AV.str l35, v36],
 st21))))))
theorem w88_eq (x0 : AV) (st : St) : wideS vE 88 [x0] st = w88 x0 st := by kernel_rfl
/-- (*rostrum/parse.parser).closed -/
noncomputable def w90_L1 (x0 : AV) (x4 : AV) (l1 : List UInt8) (st5 : St) : Car → Option (Car ⊕ Nat × Car) := fun c115 => un0 (Prod.fst c115) (callS (orc vE) 38 [x0, AV.sl 1 [AV.str l1] Perm.shut] (Prod.snd c115) fun
 v116 st117 _x => asB v116 fun b119 => ifB b119 (loadS 1 false (AV.mp (St.h st5) 3) st117 fun v120 l121 => callS (orc vE) 39 [x0] st117 fun v122 st123 x124 => unA v122 fun l126 => unc l126 fun v127 l128 => asI .u8 v127
 fun n129 => unc l128 fun v130 l131 => asI .u8 v130 fun n132 => unc l131 fun v133 l134 => asS v133 fun l135 => unc l134 fun v136 l137 => un0 l137 (chk (apart (Fx.mk l121 Did.kept) x124 && (apart (Fx.mk [] Did.kept) x124
 && true)) (asOne v136 (asOne v136 (fit1 v136 fun v138 => asOne v138 (fit1 v138 fun v139 => appS 4 56 27 v120 [AV.agg [AV.int .u8 n129, AV.int .u8 n132, AV.str l135, v139]] st123 fun v140 st141 _x => asOne v140 (asOne
 v140 (storeS (orc vE) 1 (AV.mp (St.h st5) 3) v140 [v140] st141 fun _x st144 _x_1 => loadS 1 false (AV.mp (St.h st5) 3) st144 fun v146 l147 => callF (orc vE) (Sx.prim (sx vE 90)) x4 [] st144 fun v148 st149 x150 => unA
 v148 fun l152 => unc l152 fun v153 l154 => asI .u8 v153 fun n155 => unc l154 fun v156 l157 => asI .u8 v156 fun n158 => unc l157 fun v159 l160 => asS v159 fun l161 => unc l160 fun v162 l163 => un0 l163 (chk (apart (Fx.mk
 l147 Did.kept) x150 && (apart (Fx.mk [] Did.kept) x150 && true)) (asOne v162 (asOne v162 (fit1 v162 fun v164 => asOne v164 (fit1 v164 fun v165 => appS 4 56 27 v146 [AV.agg [AV.int .u8 n155, AV.int .u8 n158, AV.str l161,
 v165]] st149 fun v166 st167 _x => asOne v166 (asOne v166 (storeS (orc vE) 1 (AV.mp (St.h st5) 3) v166 [v166] st167 fun _x st170 _x_2 => some (Sum.inl ([], st170))))))))))))))))) (some (Sum.inr (0, [], st117))))
noncomputable def w90 : AV → AV → AV → AV → AV → St → Option (AV × St) := fun x0 x1 x2 x3 x4 st => asI .u8 x1 fun n0 => asS x2 fun l1 => asS x3 fun l2 => letSt (St.add st (VM.Obj.cells 27 [AV.int .u8 0, AV.int .u8 0,
 AV.str [], AV.nils])) fun st3 => callS (orc vE) 39 [x0] st3 fun v4 st5 _x => unA v4 fun l8 => unc l8 fun v9 l10 => asI .u8 v9 fun n11 => unc l10 fun v12 l13 => asI .u8 v12 fun n14 => unc l13 fun v15 l16 => asS v15 fun
 l17 => unc l16 fun v18 l19 => un0 l19 (asOne v18 (asOne v18 (fit1 v18 fun v20 => letSt (St.add st5 (VM.Obj.cells 27 [AV.int .u8 0, AV.int .u8 0, AV.str [], AV.nils])) fun st22 => storeS (orc vE) 4 (AV.mp (St.h st5) 0)
 (AV.agg [AV.int .u8 n0, AV.int .u8 0, AV.str [], AV.sl 4 [AV.agg [AV.int .u8 n11, AV.int .u8 n14, AV.str l17, v20]] Perm.shut]) [AV.int .u8 n0, AV.int .u8 0, AV.str [], AV.sl 4 [AV.agg [AV.int .u8 n11, AV.int .u8 n14,
 AV.str l17, v20]] Perm.shut] st22 fun _x st24 _x_1 => callS (orc vE) 38 [x0, AV.sl 1 [AV.str l2] Perm.shut] st24 fun v26 st27 _x => asB v26 fun b29 => ifB b29 (loadS 1 false (AV.mp (St.h st5) 3) st27 fun v30 l31 =>
 callS (orc vE) 39 [x0] st27 fun v32 st33 x34 => unA v32 fun l36 => unc l36 fun v37 l38 => asI .u8 v37 fun n39 => unc l38 fun v40 l41 => asI .u8 v40 fun n42 => unc l41 fun v43 l44 => asS v43 fun l45 => unc l44 fun v46
 l47 => un0 l47 (chk (apart (Fx.mk l31 Did.kept) x34 && (apart (Fx.mk [] Did.kept) x34 && true)) (asOne v46 (asOne v46 (fit1 v46 fun v48 => asOne v48 (fit1 v48 fun v49 => appS 4 56 27 v30 [AV.agg [AV.int .u8 n39, AV.int
 .u8 n42, AV.str l45, v49]] st33 fun v50 st51 _x => asOne v50 (asOne v50 (storeS (orc vE) 1 (AV.mp (St.h st5) 3) v50 [v50] st51 fun _x st54 _x_2 => loadS 4 true (AV.mp (St.h st5) 0) st54 fun v56 _x => unA v56 fun l59 =>
 unc l59 fun v60 l61 => asI .u8 v60 fun n62 => unc l61 fun v63 l64 => asI .u8 v63 fun n65 => unc l64 fun v66 l67 => asS v66 fun l68 => unc l67 fun v69 l70 => un0 l70 (asOne v69 (storeS (orc vE) 4 (AV.mp (St.h st) 0)
 (AV.agg [AV.int .u8 n62, AV.int .u8 n65, AV.str l68, v69]) [AV.int .u8 n62, AV.int .u8 n65, AV.str l68, v69] st54 fun _x st72 _x_3 => loadS 4 true (AV.mp (St.h st) 0) st72 fun v74 _x => unA v74 fun l77 => unc l77 fun
 v78 l79 => asI .u8 v78 fun n80 => unc l79 fun v81 l82 => asI .u8 v81 fun n83 => unc l82 fun v84 l85 => asS v84 fun l86 => unc l85 fun v87 l88 => un0 l88 (some (AV.agg [AV.int .u8 n80, AV.int .u8 n83, AV.str l86, v87],
 st72)))))))))))) (loadS 1 false (AV.mp (St.h st5) 3) st27 fun v89 l90 => callF (orc vE) (Sx.prim (sx vE 90)) x4 [] st27 fun v91 st92 x93 => unA v91 fun l95 => unc l95 fun v96 l97 => asI .u8 v96 fun n98 => unc l97 fun
 v99 l100 => asI .u8 v99 fun n101 => unc l100 fun v102 l103 => asS v102 fun l104 => unc l103 fun v105 l106 => un0 l106 (chk (apart (Fx.mk l90 Did.kept) x93 && (apart (Fx.mk [] Did.kept) x93 && true)) (asOne v105 (asOne
 v105 (fit1 v105 fun v107 => asOne v107 (fit1 v107 fun v108 => appS 4 56 27 v89 [AV.agg [AV.int .u8 n98, AV.int .u8 n101, AV.str l104, v108]] st92 fun v109 st110 _x => asOne v109 (asOne v109 (storeS (orc vE) 1 (AV.mp
 (St.h st5) 3) v109 [v109] st110 fun _x st113 _x_2 => bindO (loopO (w90_L1 x0 x4 l1 st5) ([], st113)) fun c172 => un0 (Prod.fst (Prod.snd c172)) (loadS 1 false (AV.mp (St.h st5) 3) (Prod.snd (Prod.snd c172)) fun v173
 l174 => callS (orc vE) 60 [x0, AV.str l2] (Prod.snd (Prod.snd c172)) fun v175 st176 x177 => unA v175 fun l179 => unc l179 fun v180 l181 => asI .u8 v180 fun n182 => unc l181 fun v183 l184 => asI .u8 v183 fun n185 => unc
 l184 fun v186 l187 => asS v186 fun l188 => unc l187 fun v189 l190 => un0 l190 (chk (apart (Fx.mk l174 Did.kept) x177 && (apart (Fx.mk [] Did.kept) x177 && true)) (asOne v189 (asOne v189 (fit1 v189 fun v191 => asOne v191
 (fit1 v191 fun v192 => appS 4 56 27 v173 [AV.agg [AV.int .u8 n182, AV.int .u8 n185, AV.str l188, v192]] st176 fun v193 st194 _x => asOne v193 (asOne v193 (storeS (orc vE) 1 (AV.mp (St.h st5) 3) v193 [v193] st194 fun _x
 st197 _x_3 => loadS 4 true (AV.mp (St.h st5) 0) st197 fun v199 _x => unA v199 fun l202 => unc l202 fun v203 l204 => asI .u8 v203 fun n205 => unc l204 fun v206 l207 => asI .u8 v206 fun n208 => unc l207 fun v209 l210 =>
 asS v209 fun l211 => unc l210 fun v212 l213 => un0 l213 (asOne v212 (storeS (orc vE) 4 (AV.mp (St.h st) 0) (AV.agg [AV.int .u8 n205, AV.int .u8 n208, AV.str l211, v212]) [AV.int .u8 n205, AV.int .u8 n208, AV.str l211,
 v212] st197 fun _x st215 _x_4 => loadS 4 true (AV.mp (St.h st) 0) st215 fun v217 _x => unA v217 fun l220 => unc l220 fun v221 l222 => asI .u8 v221 fun n223 => unc l222 fun v224 l225 => asI .u8 v224 fun n226 => unc l225
 fun v227 l228 => asS v227 fun l229 => unc l228 fun v230 l231 => un0 l231 (some (AV.agg [AV.int .u8 n223, AV.int .u8 n226, AV.str l229, v230], st215)))))))))))))))))))))))
theorem w90_eq (x0 x1 x2 x3 x4 : AV) (st : St) : wideS vE 90 [x0, x1, x2, x3, x4] st = w90 x0 x1 x2 x3 x4 st := by kernel_rfl
/-- (*rostrum/parse.parser).within -/
noncomputable def w91 : AV → AV → AV → St → Option (AV × St) := fun x0 x1 x2 st => asS x1 fun l0 => letSt (St.add st (VM.Obj.cells 27 [AV.int .u8 0, AV.int .u8 0, AV.str [], AV.nils])) fun st1 => chk (notNil x0) (fldA 2
 x0 fun v2 => loadS 1 false v2 st1 fun v3 _x => asI .i64 v3 fun n5 => ifB (n5 == 64) (callS (orc vE) 37 [x0] st1 fun v6 st7 _x => unT v6 fun l9 => nthS l9 0 fun v10 => unA v10 fun l12 => unc l12 fun v13 l14 => asI .u8
 v13 fun n15 => unc l14 fun v16 l17 => asS v16 fun l18 => un0 l17 (unT v6 fun l19 => nthS l19 1 fun v20 => asI .i64 v20 fun _x => letSt (St.add st7 (VM.Obj.cells 24 [AV.int .u8 0, AV.str []])) fun st22 => storeS (orc vE)
 2 (AV.mp (St.h st7) 0) (AV.agg [AV.int .u8 n15, AV.str l18]) [AV.int .u8 n15, AV.str l18] st22 fun _x st24 _x_1 => loadS 1 false (AV.mp (St.h st7) 0) st24 fun v26 _x => asI .u8 v26 fun n28 => ifB (n28 == 0) (callS (orc
 vE) 89 [AV.str l0] st24 fun v29 st30 _x => unA v29 fun l33 => unc l33 fun v34 l35 => asI .u8 v34 fun n36 => unc l35 fun v37 l38 => asI .u8 v37 fun n39 => unc l38 fun v40 l41 => asS v40 fun l42 => unc l41 fun v43 l44 =>
 un0 l44 (asOne v43 (storeS (orc vE) 4 (AV.mp (St.h st) 0) (AV.agg [AV.int .u8 n36, AV.int .u8 n39, AV.str l42, v43]) [AV.int .u8 n36, AV.int .u8 n39, AV.str l42, v43] st30 fun _x st46 _x_2 => loadS 4 true (AV.mp (St.h
 st) 0) st46 fun v48 _x => unA v48 fun l51 => unc l51 fun v52 l53 => asI .u8 v52 fun n54 => unc l53 fun v55 l56 => asI .u8 v55 fun n57 => unc l56 fun v58 l59 => asS v58 fun l60 => unc l59 fun v61 l62 => un0 l62 (some
 (AV.agg [AV.int .u8 n54, AV.int .u8 n57, AV.str l60, v61], st46))))) (callS (orc vE) 39 [x0] st24 fun v63 st64 _x => unA v63 fun l67 => unc l67 fun v68 l69 => asI .u8 v68 fun n70 => unc l69 fun v71 l72 => asI .u8 v71
 fun n73 => unc l72 fun v74 l75 => asS v74 fun l76 => unc l75 fun v77 l78 => un0 l78 (asOne v77 (asOne v77 (fit1 v77 fun v79 => storeS (orc vE) 4 (AV.mp (St.h st) 0) (AV.agg [AV.int .u8 3, AV.int .u8 0, AV.str [], AV.sl
 4 [AV.agg [AV.int .u8 n70, AV.int .u8 n73, AV.str l76, v79]] Perm.shut]) [AV.int .u8 3, AV.int .u8 0, AV.str [], AV.sl 4 [AV.agg [AV.int .u8 n70, AV.int .u8 n73, AV.str l76, v79]] Perm.shut] st64 fun _x st82 _x_2 =>
 loadS 4 true (AV.mp (St.h st) 0) st82 fun v84 _x => unA v84 fun l87 => unc l87 fun v88 l89 => asI .u8 v88 fun n90 => unc l89 fun v91 l92 => asI .u8 v91 fun n93 => unc l92 fun v94 l95 => asS v94 fun l96 => unc l95 fun
 v97 l98 => un0 l98 (some (AV.agg [AV.int .u8 n90, AV.int .u8 n93, AV.str l96, v97], st82)))))))) (chk (notNil x0) (fldA 2 x0 fun v99 => loadS 1 false v99 st1 fun v100 _x => asI .i64 v100 fun n102 => letV (IntKind.wrap
 .i64 (n102 + 1)) fun n103 => chk (notNil x0) (fldA 2 x0 fun v104 => storeS (orc vE) 1 v104 (AV.int .i64 n103) [AV.int .i64 n103] st1 fun _x st106 _x_1 => callF (orc vE) (Sx.prim (sx vE 91)) x2 [] st106 fun v108 st109 _x
 => unA v108 fun l112 => unc l112 fun v113 l114 => asI .u8 v113 fun n115 => unc l114 fun v116 l117 => asI .u8 v116 fun n118 => unc l117 fun v119 l120 => asS v119 fun l121 => unc l120 fun v122 l123 => un0 l123 (letSt
 (St.add st109 (VM.Obj.cells 27 [AV.int .u8 0, AV.int .u8 0, AV.str [], AV.nils])) fun st124 => asOne v122 (storeS (orc vE) 4 (AV.mp (St.h st109) 0) (AV.agg [AV.int .u8 n115, AV.int .u8 n118, AV.str l121, v122]) [AV.int
 .u8 n115, AV.int .u8 n118, AV.str l121, v122] st124 fun _x st126 _x_2 => chk (notNil x0) (fldA 2 x0 fun v128 => loadS 1 false v128 st126 fun v129 _x => asI .i64 v129 fun n131 => letV (IntKind.wrap .i64 (n131 - 1)) fun
 n132 => chk (notNil x0) (fldA 2 x0 fun v133 => storeS (orc vE) 1 v133 (AV.int .i64 n132) [AV.int .i64 n132] st126 fun _x st135 _x_3 => loadS 4 true (AV.mp (St.h st109) 0) st135 fun v137 _x => unA v137 fun l140 => unc
 l140 fun v141 l142 => asI .u8 v141 fun n143 => unc l142 fun v144 l145 => asI .u8 v144 fun n146 => unc l145 fun v147 l148 => asS v147 fun l149 => unc l148 fun v150 l151 => un0 l151 (asOne v150 (storeS (orc vE) 4 (AV.mp
 (St.h st) 0) (AV.agg [AV.int .u8 n143, AV.int .u8 n146, AV.str l149, v150]) [AV.int .u8 n143, AV.int .u8 n146, AV.str l149, v150] st135 fun _x st153 _x_4 => loadS 4 true (AV.mp (St.h st) 0) st153 fun v155 _x => unA v155
 fun l158 => unc l158 fun v159 l160 => asI .u8 v159 fun n161 => unc l160 fun v162 l163 => asI .u8 v162 fun n164 => unc l163 fun v165 l166 => asS v165 fun l167 => unc l166 fun v168 l169 => un0 l169 (some (AV.agg [AV.int
 .u8 n161, AV.int .u8 n164, AV.str l167, v168], st153))))))))))))
theorem w91_eq (x0 x1 x2 : AV) (st : St) : wideS vE 91 [x0, x1, x2] st = w91 x0 x1 x2 st := by kernel_rfl
/-- (*rostrum/parse.parser).whole -/
noncomputable def w92_L1 (x0 : AV) (st0 : St) : Car → Option (Car ⊕ Nat × Car) := fun c102 => un0 (Prod.fst c102) (callS (orc vE) 58 [x0, AV.int .u8 5, AV.str [95]] (Prod.snd c102) fun v103 st104 _x => asB v103 fun b106
 => ifB b106 (callS (orc vE) 59 [x0, AV.bool true] st104 fun v107 st108 _x => unA v107 fun l111 => unc l111 fun v112 l113 => asI .u8 v112 fun n114 => unc l113 fun v115 l116 => asI .u8 v115 fun n117 => unc l116 fun v118
 l119 => asS v118 fun l120 => unc l119 fun v121 l122 => un0 l122 (asOne v121 (asOne v121 (fit1 v121 fun v123 => callS (orc vE) 115 [AV.sl 4 [AV.agg [AV.int .u8 n114, AV.int .u8 n117, AV.str l120, v123]] Perm.shut, AV.mp
 (St.h st0) 0] st108 fun _x st125 _x_1 => some (Sum.inl ([], st125)))))) (some (Sum.inr (0, [], st104))))
noncomputable def w92_L2 (x0 : AV) (st0 : St) : Car → Option (Car ⊕ Nat × Car) := fun c367 => un0 (Prod.fst c367) (callS (orc vE) 38 [x0, AV.sl 1 [AV.str [124]] Perm.shut] (Prod.snd c367) fun v368 st369 _x => asB v368
 fun b371 => ifB b371 (callS (orc vE) 39 [x0] st369 fun v372 st373 _x => unA v372 fun l376 => unc l376 fun v377 l378 => asI .u8 v377 fun n379 => unc l378 fun v380 l381 => asI .u8 v380 fun n382 => unc l381 fun v383 l384
 => asS v383 fun l385 => unc l384 fun v386 l387 => un0 l387 (asOne v386 (asOne v386 (fit1 v386 fun v388 => callS (orc vE) 115 [AV.sl 4 [AV.agg [AV.int .u8 n379, AV.int .u8 n382, AV.str l385, v388]] Perm.shut, AV.mp (St.h
 st0) 0] st373 fun _x st390 _x_1 => callS (orc vE) 116 [x0] st390 fun v392 st393 _x => unA v392 fun l396 => unc l396 fun v397 l398 => asI .u8 v397 fun n399 => unc l398 fun v400 l401 => asI .u8 v400 fun n402 => unc l401
 fun v403 l404 => asS v403 fun l405 => unc l404 fun v406 l407 => un0 l407 (asOne v406 (asOne v406 (fit1 v406 fun v408 => callS (orc vE) 115 [AV.sl 4 [AV.agg [AV.int .u8 n399, AV.int .u8 n402, AV.str l405, v408]]
 Perm.shut, AV.mp (St.h st0) 0] st393 fun _x st410 _x_2 => some (Sum.inl ([], st410))))))))) (some (Sum.inr (0, [], st369))))
noncomputable def w92 : AV → St → Option (AV × St) := fun x0 st => letSt (St.add st (VM.Obj.cells 27 [AV.int .u8 0, AV.int .u8 0, AV.str [], AV.nils])) fun st0 => letSt (St.add st0 (VM.Obj.cells 27 [AV.int .u8 0, AV.int
 .u8 0, AV.str [], AV.nils])) fun st1 => callS (orc vE) 38 [x0, AV.sl 1 [AV.str [108, 101, 116]] Perm.shut] st1 fun v2 st3 _x => asB v2 fun b5 => bindO (ifB b5 (storeS (orc vE) 1 (AV.mp (St.h st0) 0) (AV.int .u8 6)
 [AV.int .u8 6] st3 fun _x st7 _x_1 => callS (orc vE) 39 [x0] st7 fun v9 st10 _x => unA v9 fun l13 => unc l13 fun v14 l15 => asI .u8 v14 fun n16 => unc l15 fun v17 l18 => asI .u8 v17 fun n19 => unc l18 fun v20 l21 => asS
 v20 fun l22 => unc l21 fun v23 l24 => un0 l24 (asOne v23 (asOne v23 (fit1 v23 fun v25 => callS (orc vE) 115 [AV.sl 4 [AV.agg [AV.int .u8 n16, AV.int .u8 n19, AV.str l22, v25]] Perm.shut, AV.mp (St.h st0) 0] st10 fun _x
 st27 _x_2 => callS (orc vE) 40 [x0] st27 fun v29 st30 _x => callS (orc vE) 115 [v29, AV.mp (St.h st0) 0] st30 fun _x st33 _x_3 => callS (orc vE) 60 [x0, AV.str [105, 110]] st33 fun v35 st36 _x => unA v35 fun l39 => unc
 l39 fun v40 l41 => asI .u8 v40 fun n42 => unc l41 fun v43 l44 => asI .u8 v43 fun n45 => unc l44 fun v46 l47 => asS v46 fun l48 => unc l47 fun v49 l50 => un0 l50 (asOne v49 (asOne v49 (fit1 v49 fun v51 => callS (orc vE)
 115 [AV.sl 4 [AV.agg [AV.int .u8 n42, AV.int .u8 n45, AV.str l48, v51]] Perm.shut, AV.mp (St.h st0) 0] st36 fun _x st53 _x_4 => some (Sum.inl ([], st53))))))))) (callS (orc vE) 38 [x0, AV.sl 1 [AV.str [102, 117, 110]]
 Perm.shut] st3 fun v55 st56 _x => asB v55 fun b58 => bindO (ifB b58 (storeS (orc vE) 1 (AV.mp (St.h st0) 0) (AV.int .u8 7) [AV.int .u8 7] st56 fun _x st60 _x_1 => callS (orc vE) 39 [x0] st60 fun v62 st63 _x => unA v62
 fun l66 => unc l66 fun v67 l68 => asI .u8 v67 fun n69 => unc l68 fun v70 l71 => asI .u8 v70 fun n72 => unc l71 fun v73 l74 => asS v73 fun l75 => unc l74 fun v76 l77 => un0 l77 (asOne v76 (asOne v76 (fit1 v76 fun v78 =>
 callS (orc vE) 115 [AV.sl 4 [AV.agg [AV.int .u8 n69, AV.int .u8 n72, AV.str l75, v78]] Perm.shut, AV.mp (St.h st0) 0] st63 fun _x st80 _x_2 => callS (orc vE) 59 [x0, AV.bool true] st80 fun v82 st83 _x => unA v82 fun l86
 => unc l86 fun v87 l88 => asI .u8 v87 fun n89 => unc l88 fun v90 l91 => asI .u8 v90 fun n92 => unc l91 fun v93 l94 => asS v93 fun l95 => unc l94 fun v96 l97 => un0 l97 (asOne v96 (asOne v96 (fit1 v96 fun v98 => callS
 (orc vE) 115 [AV.sl 4 [AV.agg [AV.int .u8 n89, AV.int .u8 n92, AV.str l95, v98]] Perm.shut, AV.mp (St.h st0) 0] st83 fun _x st100 _x_3 => bindO (loopO (w92_L1 x0 st0) ([], st100)) fun c127 => un0 (Prod.fst (Prod.snd
 c127)) (callS (orc vE) 60 [x0, AV.str [45, 62]] (Prod.snd (Prod.snd c127)) fun v128 st129 _x => unA v128 fun l132 => unc l132 fun v133 l134 => asI .u8 v133 fun n135 => unc l134 fun v136 l137 => asI .u8 v136 fun n138 =>
 unc l137 fun v139 l140 => asS v139 fun l141 => unc l140 fun v142 l143 => un0 l143 (asOne v142 (asOne v142 (fit1 v142 fun v144 => callS (orc vE) 115 [AV.sl 4 [AV.agg [AV.int .u8 n135, AV.int .u8 n138, AV.str l141, v144]]
 Perm.shut, AV.mp (St.h st0) 0] st129 fun _x st146 _x_4 => some (Sum.inl ([], st146))))))))))))) (callS (orc vE) 38 [x0, AV.sl 1 [AV.str [105, 102]] Perm.shut] st56 fun v148 st149 _x => asB v148 fun b151 => ifB b151
 (storeS (orc vE) 1 (AV.mp (St.h st0) 0) (AV.int .u8 8) [AV.int .u8 8] st149 fun _x st153 _x_1 => callS (orc vE) 39 [x0] st153 fun v155 st156 _x => unA v155 fun l159 => unc l159 fun v160 l161 => asI .u8 v160 fun n162 =>
 unc l161 fun v163 l164 => asI .u8 v163 fun n165 => unc l164 fun v166 l167 => asS v166 fun l168 => unc l167 fun v169 l170 => un0 l170 (asOne v169 (asOne v169 (fit1 v169 fun v171 => callS (orc vE) 115 [AV.sl 4 [AV.agg
 [AV.int .u8 n162, AV.int .u8 n165, AV.str l168, v171]] Perm.shut, AV.mp (St.h st0) 0] st156 fun _x st173 _x_2 => callS (orc vE) 61 [x0] st173 fun v175 st176 _x => unA v175 fun l179 => unc l179 fun v180 l181 => asI .u8
 v180 fun n182 => unc l181 fun v183 l184 => asI .u8 v183 fun n185 => unc l184 fun v186 l187 => asS v186 fun l188 => unc l187 fun v189 l190 => un0 l190 (asOne v189 (asOne v189 (fit1 v189 fun v191 => callS (orc vE) 115
 [AV.sl 4 [AV.agg [AV.int .u8 n182, AV.int .u8 n185, AV.str l188, v191]] Perm.shut, AV.mp (St.h st0) 0] st176 fun _x st193 _x_3 => callS (orc vE) 60 [x0, AV.str [116, 104, 101, 110]] st193 fun v195 st196 _x => unA v195
 fun l199 => unc l199 fun v200 l201 => asI .u8 v200 fun n202 => unc l201 fun v203 l204 => asI .u8 v203 fun n205 => unc l204 fun v206 l207 => asS v206 fun l208 => unc l207 fun v209 l210 => un0 l210 (asOne v209 (asOne v209
 (fit1 v209 fun v211 => callS (orc vE) 115 [AV.sl 4 [AV.agg [AV.int .u8 n202, AV.int .u8 n205, AV.str l208, v211]] Perm.shut, AV.mp (St.h st0) 0] st196 fun _x st213 _x_4 => callS (orc vE) 61 [x0] st213 fun v215 st216 _x
 => unA v215 fun l219 => unc l219 fun v220 l221 => asI .u8 v220 fun n222 => unc l221 fun v223 l224 => asI .u8 v223 fun n225 => unc l224 fun v226 l227 => asS v226 fun l228 => unc l227 fun v229 l230 => un0 l230 (asOne v229
 (asOne v229 (fit1 v229 fun v231 => callS (orc vE) 115 [AV.sl 4 [AV.agg [AV.int .u8 n222, AV.int .u8 n225, AV.str l228, v231]] Perm.shut, AV.mp (St.h st0) 0] st216 fun _x st233 _x_5 => callS (orc vE) 60 [x0, AV.str [101,
 108, 115, 101]] st233 fun v235 st236 _x => unA v235 fun l239 => unc l239 fun v240 l241 => asI .u8 v240 fun n242 => unc l241 fun v243 l244 => asI .u8 v243 fun n245 => unc l244 fun v246 l247 => asS v246 fun l248 => unc
 l247 fun v249 l250 => un0 l250 (asOne v249 (asOne v249 (fit1 v249 fun v251 => callS (orc vE) 115 [AV.sl 4 [AV.agg [AV.int .u8 n242, AV.int .u8 n245, AV.str l248, v251]] Perm.shut, AV.mp (St.h st0) 0] st236 fun _x st253
 _x_6 => some (Sum.inl ([], st253)))))))))))))))))) (callS (orc vE) 38 [x0, AV.sl 1 [AV.str [109, 97, 116, 99, 104]] Perm.shut] st149 fun v255 st256 _x => asB v255 fun b258 => ifB b258 (storeS (orc vE) 1 (AV.mp (St.h
 st0) 0) (AV.int .u8 9) [AV.int .u8 9] st256 fun _x st260 _x_1 => callS (orc vE) 39 [x0] st260 fun v262 st263 _x => unA v262 fun l266 => unc l266 fun v267 l268 => asI .u8 v267 fun n269 => unc l268 fun v270 l271 => asI
 .u8 v270 fun n272 => unc l271 fun v273 l274 => asS v273 fun l275 => unc l274 fun v276 l277 => un0 l277 (asOne v276 (asOne v276 (fit1 v276 fun v278 => callS (orc vE) 115 [AV.sl 4 [AV.agg [AV.int .u8 n269, AV.int .u8
 n272, AV.str l275, v278]] Perm.shut, AV.mp (St.h st0) 0] st263 fun _x st280 _x_2 => callS (orc vE) 61 [x0] st280 fun v282 st283 _x => unA v282 fun l286 => unc l286 fun v287 l288 => asI .u8 v287 fun n289 => unc l288 fun
 v290 l291 => asI .u8 v290 fun n292 => unc l291 fun v293 l294 => asS v293 fun l295 => unc l294 fun v296 l297 => un0 l297 (asOne v296 (asOne v296 (fit1 v296 fun v298 => callS (orc vE) 115 [AV.sl 4 [AV.agg [AV.int .u8
 n289, AV.int .u8 n292, AV.str l295, v298]] Perm.shut, AV.mp (St.h st0) 0] st283 fun _x st300 _x_3 => callS (orc vE) 60 [x0, AV.str [119, 105, 116, 104]] st300 fun v302 st303 _x => unA v302 fun l306 => unc l306 fun v307
 l308 => asI .u8 v307 fun n309 => unc l308 fun v310 l311 => asI .u8 v310 fun n312 => unc l311 fun v313 l314 => asS v313 fun l315 => unc l314 fun v316 l317 => un0 l317 (asOne v316 (asOne v316 (fit1 v316 fun v318 => callS
 (orc vE) 115 [AV.sl 4 [AV.agg [AV.int .u8 n309, AV.int .u8 n312, AV.str l315, v318]] Perm.shut, AV.mp (St.h st0) 0] st303 fun _x st320 _x_4 => callS (orc vE) 38 [x0, AV.sl 1 [AV.str [124]] Perm.shut] st320 fun v322
 st323 _x => asB v322 fun b325 => bindO (ifB b325 (callS (orc vE) 39 [x0] st323 fun v326 st327 _x => unA v326 fun l330 => unc l330 fun v331 l332 => asI .u8 v331 fun n333 => unc l332 fun v334 l335 => asI .u8 v334 fun n336
 => unc l335 fun v337 l338 => asS v337 fun l339 => unc l338 fun v340 l341 => un0 l341 (asOne v340 (asOne v340 (fit1 v340 fun v342 => callS (orc vE) 115 [AV.sl 4 [AV.agg [AV.int .u8 n333, AV.int .u8 n336, AV.str l339,
 v342]] Perm.shut, AV.mp (St.h st0) 0] st327 fun _x st344 _x_5 => some ([], st344))))) (some ([], st323))) fun c346 => un0 (Prod.fst c346) (callS (orc vE) 116 [x0] (Prod.snd c346) fun v347 st348 _x => unA v347 fun l351
 => unc l351 fun v352 l353 => asI .u8 v352 fun n354 => unc l353 fun v355 l356 => asI .u8 v355 fun n357 => unc l356 fun v358 l359 => asS v358 fun l360 => unc l359 fun v361 l362 => un0 l362 (asOne v361 (asOne v361 (fit1
 v361 fun v363 => callS (orc vE) 115 [AV.sl 4 [AV.agg [AV.int .u8 n354, AV.int .u8 n357, AV.str l360, v363]] Perm.shut, AV.mp (St.h st0) 0] st348 fun _x st365 _x_5 => bindO (loopO (w92_L2 x0 st0) ([], st365)) fun c412 =>
 un0 (Prod.fst (Prod.snd c412)) (loadS 4 true (AV.mp (St.h st0) 0) (Prod.snd (Prod.snd c412)) fun v413 _x => unA v413 fun l416 => unc l416 fun v417 l418 => asI .u8 v417 fun n419 => unc l418 fun v420 l421 => asI .u8 v420
 fun n422 => unc l421 fun v423 l424 => asS v423 fun l425 => unc l424 fun v426 l427 => un0 l427 (asOne v426 (storeS (orc vE) 4 (AV.mp (St.h st) 0) (AV.agg [AV.int .u8 n419, AV.int .u8 n422, AV.str l425, v426]) [AV.int .u8
 n419, AV.int .u8 n422, AV.str l425, v426] (Prod.snd (Prod.snd c412)) fun _x st429 _x_6 => bindO (bindO (loadS 4 true (AV.mp (St.h st) 0) st429 fun v431 _x => unA v431 fun l434 => unc l434 fun v435 l436 => asI .u8 v435
 fun n437 => unc l436 fun v438 l439 => asI .u8 v438 fun n440 => unc l439 fun v441 l442 => asS v441 fun l443 => unc l442 fun v444 l445 => un0 l445 (some (AV.agg [AV.int .u8 n437, AV.int .u8 n440, AV.str l443, v444],
 st429))) fun c446 => some (Sum.inr c446)) fun c447 => some (Sum.inr c447)))))))))))))))))) (callS (orc vE) 117 [x0, AV.int .i64 0] st256 fun v448 st449 _x => unA v448 fun l452 => unc l452 fun v453 l454 => asI .u8 v453
 fun n455 => unc l454 fun v456 l457 => asI .u8 v456 fun n458 => unc l457 fun v459 l460 => asS v459 fun l461 => unc l460 fun v462 l463 => un0 l463 (asOne v462 (storeS (orc vE) 4 (AV.mp (St.h st) 0) (AV.agg [AV.int .u8
 n455, AV.int .u8 n458, AV.str l461, v462]) [AV.int .u8 n455, AV.int .u8 n458, AV.str l461, v462] st449 fun _x st465 _x_1 => bindO (bindO (loadS 4 true (AV.mp (St.h st) 0) st465 fun v467 _x => unA v467 fun l470 => unc
 l470 fun v471 l472 => asI .u8 v471 fun n473 => unc l472 fun v474 l475 => asI .u8 v474 fun n476 => unc l475 fun v477 l478 => asS v477 fun l479 => unc l478 fun v480 l481 => un0 l481 (some (AV.agg [AV.int .u8 n473, AV.int
 .u8 n476, AV.str l479, v480], st465))) fun c482 => some (Sum.inr c482)) fun c483 => some (Sum.inr c483))))))) fun c484 => onSum c484 fun c485 => un0 (Prod.fst c485) (some (Sum.inl ([], Prod.snd c485))))) fun c486 =>
 onSum c486 fun c487 => un0 (Prod.fst c487) (callS (orc vE) 61 [x0] (Prod.snd c487) fun v488 st489 _x => unA v488 fun l492 => unc l492 fun v493 l494 => asI .u8 v493 fun n495 => unc l494 fun v496 l497 => asI .u8 v496 fun
 n498 => unc l497 fun v499 l500 => asS v499 fun l501 => unc l500 fun v502 l503 => un0 l503 (asOne v502 (asOne v502 (fit1 v502 fun v504 => callS (orc vE) 115 [AV.sl 4 [AV.agg [AV.int .u8 n495, AV.int .u8 n498, AV.str
 l501, v504]] Perm.shut, AV.mp (St.h st0) 0] st489 fun _x st506 _x_1 => loadS 4 true (AV.mp (St.h st0) 0) st506 fun v508 _x => unA v508 fun l511 => unc l511 fun v512 l513 => asI .u8 v512 fun n514 => unc l513 fun v515
 l516 => asI .u8 v515 fun n517 => unc l516 fun v518 l519 => asS v518 fun l520 => unc l519 fun v521 l522 => un0 l522 (asOne v521 (storeS (orc vE) 4 (AV.mp (St.h st) 0) (AV.agg [AV.int .u8 n514, AV.int .u8 n517, AV.str
 l520, v521]) [AV.int .u8 n514, AV.int .u8 n517, AV.str l520, v521] st506 fun _x st524 _x_2 => loadS 4 true (AV.mp (St.h st) 0) st524 fun v526 _x => unA v526 fun l529 => unc l529 fun v530 l531 => asI .u8 v530 fun n532 =>
 unc l531 fun v533 l534 => asI .u8 v533 fun n535 => unc l534 fun v536 l537 => asS v536 fun l538 => unc l537 fun v539 l540 => un0 l540 (some (AV.agg [AV.int .u8 n532, AV.int .u8 n535, AV.str l538, v539], st524))))))))
theorem w92_eq (x0 : AV) (st : St) : wideS vE 92 [x0] st = w92 x0 st := by kernel_rfl
/-- (*rostrum/parse.parser).pattern$1 -/
noncomputable def w114 : AV → St → Option (AV × St) := fun x0 st => letSt (St.add st (VM.Obj.cells 27 [AV.int .u8 0, AV.int .u8 0, AV.str [], AV.nils])) fun st0 => loadS 1 false x0 st0 fun v1 _x => callS (orc vE) 59
 [v1, AV.bool true] st0 fun v3 st4 _x => unA v3 fun l7 => unc l7 fun v8 l9 => asI .u8 v8 fun n10 => unc l9 fun v11 l12 => asI .u8 v11 fun n13 => unc l12 fun v14 l15 => asS v14 fun l16 => unc l15 fun v17 l18 => un0 l18
 (letSt (St.add st4 (VM.Obj.cells 27 [AV.int .u8 0, AV.int .u8 0, AV.str [], AV.nils])) fun st19 => asOne v17 (storeS (orc vE) 4 (AV.mp (St.h st4) 0) (AV.agg [AV.int .u8 n10, AV.int .u8 n13, AV.str l16, v17]) [AV.int .u8
 n10, AV.int .u8 n13, AV.str l16, v17] st19 fun _x st21 _x_1 => loadS 1 false x0 st21 fun v23 _x => callS (orc vE) 38 [v23, AV.sl 1 [AV.str [58, 58]] Perm.shut] st21 fun v25 st26 _x => asB v25 fun b28 => bindO (ifB b28
 (loadS 1 false x0 st26 fun v29 _x => callS (orc vE) 39 [v29] st26 fun v31 st32 _x => unA v31 fun l35 => unc l35 fun v36 l37 => asI .u8 v36 fun n38 => unc l37 fun v39 l40 => asI .u8 v39 fun n41 => unc l40 fun v42 l43 =>
 asS v42 fun l44 => unc l43 fun v45 l46 => un0 l46 (letSt (St.add st32 (VM.Obj.cells 27 [AV.int .u8 0, AV.int .u8 0, AV.str [], AV.nils])) fun st47 => asOne v45 (storeS (orc vE) 4 (AV.mp (St.h st32) 0) (AV.agg [AV.int
 .u8 n38, AV.int .u8 n41, AV.str l44, v45]) [AV.int .u8 n38, AV.int .u8 n41, AV.str l44, v45] st47 fun _x st49 _x_2 => loadS 4 true (AV.mp (St.h st4) 0) st49 fun v51 l52 => unA v51 fun l54 => unc l54 fun v55 l56 => asI
 .u8 v55 fun n57 => unc l56 fun v58 l59 => asI .u8 v58 fun n60 => unc l59 fun v61 l62 => asS v61 fun l63 => unc l62 fun v64 l65 => un0 l65 (loadS 4 true (AV.mp (St.h st32) 0) st49 fun v66 l67 => unA v66 fun l69 => unc
 l69 fun v70 l71 => asI .u8 v70 fun n72 => unc l71 fun v73 l74 => asI .u8 v73 fun n75 => unc l74 fun v76 l77 => asS v76 fun l78 => unc l77 fun v79 l80 => un0 l80 (loadS 1 false x0 st49 fun v81 _x => callS (orc vE) 88
 [v81] st49 fun v83 st84 x85 => unA v83 fun l87 => unc l87 fun v88 l89 => asI .u8 v88 fun n90 => unc l89 fun v91 l92 => asI .u8 v91 fun n93 => unc l92 fun v94 l95 => asS v94 fun l96 => unc l95 fun v97 l98 => un0 l98 (chk
 (apart (Fx.mk l67 Did.kept) x85 && (apart (Fx.mk l52 Did.kept) x85 && true)) (asOne v64 (asOne v79 (asOne v97 (asOne v64 (fit1 v64 fun v99 => asOne v79 (fit1 v79 fun v100 => asOne v97 (fit1 v97 fun v101 => storeS (orc
 vE) 4 (AV.mp (St.h st4) 0) (AV.agg [AV.int .u8 16, AV.int .u8 0, AV.str [], AV.sl 4 [AV.agg [AV.int .u8 n57, AV.int .u8 n60, AV.str l63, v99], AV.agg [AV.int .u8 n72, AV.int .u8 n75, AV.str l78, v100], AV.agg [AV.int
 .u8 n90, AV.int .u8 n93, AV.str l96, v101]] Perm.shut]) [AV.int .u8 16, AV.int .u8 0, AV.str [], AV.sl 4 [AV.agg [AV.int .u8 n57, AV.int .u8 n60, AV.str l63, v99], AV.agg [AV.int .u8 n72, AV.int .u8 n75, AV.str l78,
 v100], AV.agg [AV.int .u8 n90, AV.int .u8 n93, AV.str l96, v101]] Perm.shut] st84 fun _x st104 _x_3 => some ([], st104)))))))))))))) (some ([], st26))) fun c106 => un0 (Prod.fst c106) (loadS 4 true (AV.mp (St.h st4) 0)
 (Prod.snd c106) fun v107 _x => unA v107 fun l110 => unc l110 fun v111 l112 => asI .u8 v111 fun n113 => unc l112 fun v114 l115 => asI .u8 v114 fun n116 => unc l115 fun v117 l118 => asS v117 fun l119 => unc l118 fun v120
 l121 => un0 l121 (asOne v120 (storeS (orc vE) 4 (AV.mp (St.h st) 0) (AV.agg [AV.int .u8 n113, AV.int .u8 n116, AV.str l119, v120]) [AV.int .u8 n113, AV.int .u8 n116, AV.str l119, v120] (Prod.snd c106) fun _x st123 _x_2
 => loadS 4 true (AV.mp (St.h st) 0) st123 fun v125 _x => unA v125 fun l128 => unc l128 fun v129 l130 => asI .u8 v129 fun n131 => unc l130 fun v132 l133 => asI .u8 v132 fun n134 => unc l133 fun v135 l136 => asS v135 fun
 l137 => unc l136 fun v138 l139 => un0 l139 (some (AV.agg [AV.int .u8 n131, AV.int .u8 n134, AV.str l137, v138], st123)))))))
theorem w114_eq (x0 : AV) (st : St) : wideS vE 114 [x0] st = w114 x0 st := by kernel_rfl
/-- (*rostrum/parse.parser).whole$1 -/
noncomputable def w115 : AV → AV → St → Option (AV × St) := fun x0 x1 st => fldA 3 x1 fun v0 => loadS 1 false v0 st fun v1 _x => elemsS x0 fun l3 => fitTs true l3 fun l4 => chk (sizesOk 4 l4) (appS 4 56 27 v1 l4 st fun
 v5 st6 _x => fldA 3 x1 fun v8 => asOne v5 (asOne v5 (storeS (orc vE) 1 v8 v5 [v5] st6 fun _x st10 _x_1 => some (AV.tup [], st10))))
theorem w115_eq (x0 x1 : AV) (st : St) : wideS vE 115 [x0, x1] st = w115 x0 x1 st := by kernel_rfl
/-- (*rostrum/parse.parser).arm -/
noncomputable def w116 : AV → St → Option (AV × St) := fun x0 st => letSt (St.add st (VM.Obj.cells 27 [AV.int .u8 0, AV.int .u8 0, AV.str [], AV.nils])) fun st0 => callS (orc vE) 88 [x0] st0 fun v1 st2 _x => unA v1 fun
 l5 => unc l5 fun v6 l7 => asI .u8 v6 fun n8 => unc l7 fun v9 l10 => asI .u8 v9 fun n11 => unc l10 fun v12 l13 => asS v12 fun l14 => unc l13 fun v15 l16 => un0 l16 (letSt (St.add st2 (VM.Obj.cells 27 [AV.int .u8 0,
 AV.int .u8 0, AV.str [], AV.nils])) fun st17 => asOne v15 (storeS (orc vE) 4 (AV.mp (St.h st2) 0) (AV.agg [AV.int .u8 n8, AV.int .u8 n11, AV.str l14, v15]) [AV.int .u8 n8, AV.int .u8 n11, AV.str l14, v15] st17 fun _x
 st19 _x_1 => callS (orc vE) 60 [x0, AV.str [45, 62]] st19 fun v21 st22 _x => unA v21 fun l25 => unc l25 fun v26 l27 => asI .u8 v26 fun n28 => unc l27 fun v29 l30 => asI .u8 v29 fun n31 => unc l30 fun v32 l33 => asS v32
 fun l34 => unc l33 fun v35 l36 => un0 l36 (letSt (St.add st22 (VM.Obj.cells 27 [AV.int .u8 0, AV.int .u8 0, AV.str [], AV.nils])) fun st37 => asOne v35 (storeS (orc vE) 4 (AV.mp (St.h st22) 0) (AV.agg [AV.int .u8 n28,
 AV.int .u8 n31, AV.str l34, v35]) [AV.int .u8 n28, AV.int .u8 n31, AV.str l34, v35] st37 fun _x st39 _x_2 => loadS 4 true (AV.mp (St.h st2) 0) st39 fun v41 l42 => unA v41 fun l44 => unc l44 fun v45 l46 => asI .u8 v45
 fun n47 => unc l46 fun v48 l49 => asI .u8 v48 fun n50 => unc l49 fun v51 l52 => asS v51 fun l53 => unc l52 fun v54 l55 => un0 l55 (loadS 4 true (AV.mp (St.h st22) 0) st39 fun v56 l57 => unA v56 fun l59 => unc l59 fun
 v60 l61 => asI .u8 v60 fun n62 => unc l61 fun v63 l64 => asI .u8 v63 fun n65 => unc l64 fun v66 l67 => asS v66 fun l68 => unc l67 fun v69 l70 => un0 l70 (callS (orc vE) 61 [x0] st39 fun v71 st72 x73 => unA v71 fun l75
 => unc l75 fun v76 l77 => asI .u8 v76 fun n78 => unc l77 fun v79 l80 => asI .u8 v79 fun n81 => unc l80 fun v82 l83 => asS v82 fun l84 => unc l83 fun v85 l86 => un0 l86 (chk (apart (Fx.mk l57 Did.kept) x73 && (apart
 (Fx.mk l42 Did.kept) x73 && true)) (asOne v54 (asOne v69 (asOne v85 (asOne v54 (fit1 v54 fun v87 => asOne v69 (fit1 v69 fun v88 => asOne v85 (fit1 v85 fun v89 => storeS (orc vE) 4 (AV.mp (St.h st) 0) (AV.agg [AV.int .u8
 10, AV.int .u8 0, AV.str [], AV.sl 4 [AV.agg [AV.int .u8 n47, AV.int .u8 n50, AV.str l53, v87], AV.agg [AV.int .u8 n62, AV.int .u8 n65, AV.str l68, v88], AV.agg [AV.int .u8 n78, AV.int .u8 n81, AV.str l84, v89]]
 Perm.shut]) [AV.int .u8 10, AV.int .u8 0, AV.str [], AV.sl 4 [AV.agg [AV.int .u8 n47, AV.int .u8 n50, AV.str l53, v87], AV.agg [AV.int .u8 n62, AV.int .u8 n65, AV.str l68, v88], AV.agg [AV.int .u8 n78, AV.int .u8 n81,
 AV.str l84, v89]] Perm.shut] st72 fun _x st92 _x_3 => loadS 4 true (AV.mp (St.h st) 0) st92 fun v94 _x => unA v94 fun l97 => unc l97 fun v98 l99 => asI .u8 v98 fun n100 => unc l99 fun v101 l102 => asI .u8 v101 fun n103
 => unc l102 fun v104 l105 => asS v104 fun l106 => unc l105 fun v107 l108 => un0 l108 (some (AV.agg [AV.int .u8 n100, AV.int .u8 n103, AV.str l106, v107], st92))))))))))))))))
theorem w116_eq (x0 : AV) (st : St) : wideS vE 116 [x0] st = w116 x0 st := by kernel_rfl
/-- (*rostrum/parse.parser).level -/
noncomputable def w117_L1 (x0 : AV) (n0 : Int) (v2 : AV) (st42 : St) : Car → Option (Car ⊕ Nat × Car) := fun c61 => un0 (Prod.fst c61) (idxA 2 v2 n0 (Prod.snd c61) fun v62 _x => fldA 0 v62 fun v64 => loadS 1 false v64
 (Prod.snd c61) fun v65 _x => callS (orc vE) 38 [x0, v65] (Prod.snd c61) fun v67 st68 _x => asB v67 fun b70 => ifB b70 (callS (orc vE) 39 [x0] st68 fun v71 st72 _x => unA v71 fun l75 => unc l75 fun v76 l77 => asI .u8 v76
 fun n78 => unc l77 fun v79 l80 => asI .u8 v79 fun n81 => unc l80 fun v82 l83 => asS v82 fun l84 => unc l83 fun v85 l86 => un0 l86 (letSt (St.add st72 (VM.Obj.cells 27 [AV.int .u8 0, AV.int .u8 0, AV.str [], AV.nils]))
 fun st87 => asOne v85 (storeS (orc vE) 4 (AV.mp (St.h st72) 0) (AV.agg [AV.int .u8 n78, AV.int .u8 n81, AV.str l84, v85]) [AV.int .u8 n78, AV.int .u8 n81, AV.str l84, v85] st87 fun _x st89 _x_1 => idxA 2 v2 n0 st89 fun
 v91 _x => fldA 1 v91 fun v93 => loadS 1 false v93 st89 fun v94 _x => asB v94 fun b96 => bindO (ifB b96 (letV (IntKind.wrap .i64 (n0 + 1)) fun n97 => some ([AV.int .i64 n97], st89)) (some ([AV.int .i64 n0], st89))) fun
 c98 => unc (Prod.fst c98) fun v99 l100 => asI .i64 v99 fun n101 => un0 l100 (loadS 4 true (AV.mp (St.h st42) 0) (Prod.snd c98) fun v102 l103 => unA v102 fun l105 => unc l105 fun v106 l107 => asI .u8 v106 fun n108 => unc
 l107 fun v109 l110 => asI .u8 v109 fun n111 => unc l110 fun v112 l113 => asS v112 fun l114 => unc l113 fun v115 l116 => un0 l116 (loadS 4 true (AV.mp (St.h st72) 0) (Prod.snd c98) fun v117 l118 => unA v117 fun l120 =>
 unc l120 fun v121 l122 => asI .u8 v121 fun n123 => unc l122 fun v124 l125 => asI .u8 v124 fun n126 => unc l125 fun v127 l128 => asS v127 fun l129 => unc l128 fun v130 l131 => un0 l131 (callS (orc vE) 117 [x0, AV.int
 .i64 n101] (Prod.snd c98) fun v132 st133 x134 => unA v132 fun l136 => unc l136 fun v137 l138 => asI .u8 v137 fun n139 => unc l138 fun v140 l141 => asI .u8 v140 fun n142 => unc l141 fun v143 l144 => asS v143 fun l145 =>
 unc l144 fun v146 l147 => un0 l147 (chk (apart (Fx.mk l118 Did.kept) x134 && (apart (Fx.mk l103 Did.kept) x134 && true)) (asOne v115 (asOne v130 (asOne v146 (asOne v115 (fit1 v115 fun v148 => asOne v130 (fit1 v130 fun
 v149 => asOne v146 (fit1 v146 fun v150 => storeS (orc vE) 4 (AV.mp (St.h st42) 0) (AV.agg [AV.int .u8 11, AV.int .u8 0, AV.str [], AV.sl 4 [AV.agg [AV.int .u8 n108, AV.int .u8 n111, AV.str l114, v148], AV.agg [AV.int
 .u8 n123, AV.int .u8 n126, AV.str l129, v149], AV.agg [AV.int .u8 n139, AV.int .u8 n142, AV.str l145, v150]] Perm.shut]) [AV.int .u8 11, AV.int .u8 0, AV.str [], AV.sl 4 [AV.agg [AV.int .u8 n108, AV.int .u8 n111, AV.str
 l114, v148], AV.agg [AV.int .u8 n123, AV.int .u8 n126, AV.str l129, v149], AV.agg [AV.int .u8 n139, AV.int .u8 n142, AV.str l145, v150]] Perm.shut] st133 fun _x st153 _x_2 => some (Sum.inl ([], st153))))))))))))))))
 (some (Sum.inr (0, [], st68))))
noncomputable def w117 : AV → AV → St → Option (AV × St) := fun x0 x1 st => asI .i64 x1 fun n0 => letSt (St.add st (VM.Obj.cells 27 [AV.int .u8 0, AV.int .u8 0, AV.str [], AV.nils])) fun st1 => callS (orc vE) 128 [] st1
 fun v2 st3 _x => lenS v2 fun k5 => ifB (n0 == (↑k5 : Int)) (callS (orc vE) 129 [x0] st3 fun v6 st7 _x => unA v6 fun l10 => unc l10 fun v11 l12 => asI .u8 v11 fun n13 => unc l12 fun v14 l15 => asI .u8 v14 fun n16 => unc
 l15 fun v17 l18 => asS v17 fun l19 => unc l18 fun v20 l21 => un0 l21 (asOne v20 (storeS (orc vE) 4 (AV.mp (St.h st) 0) (AV.agg [AV.int .u8 n13, AV.int .u8 n16, AV.str l19, v20]) [AV.int .u8 n13, AV.int .u8 n16, AV.str
 l19, v20] st7 fun _x st23 _x_1 => loadS 4 true (AV.mp (St.h st) 0) st23 fun v25 _x => unA v25 fun l28 => unc l28 fun v29 l30 => asI .u8 v29 fun n31 => unc l30 fun v32 l33 => asI .u8 v32 fun n34 => unc l33 fun v35 l36 =>
 asS v35 fun l37 => unc l36 fun v38 l39 => un0 l39 (some (AV.agg [AV.int .u8 n31, AV.int .u8 n34, AV.str l37, v38], st23))))) (letV (IntKind.wrap .i64 (n0 + 1)) fun n40 => callS (orc vE) 117 [x0, AV.int .i64 n40] st3 fun
 v41 st42 _x => unA v41 fun l45 => unc l45 fun v46 l47 => asI .u8 v46 fun n48 => unc l47 fun v49 l50 => asI .u8 v49 fun n51 => unc l50 fun v52 l53 => asS v52 fun l54 => unc l53 fun v55 l56 => un0 l56 (letSt (St.add st42
 (VM.Obj.cells 27 [AV.int .u8 0, AV.int .u8 0, AV.str [], AV.nils])) fun st57 => asOne v55 (storeS (orc vE) 4 (AV.mp (St.h st42) 0) (AV.agg [AV.int .u8 n48, AV.int .u8 n51, AV.str l54, v55]) [AV.int .u8 n48, AV.int .u8
 n51, AV.str l54, v55] st57 fun _x st59 _x_1 => bindO (loopO (w117_L1 x0 n0 v2 st42) ([], st59)) fun c155 => un0 (Prod.fst (Prod.snd c155)) (loadS 4 true (AV.mp (St.h st42) 0) (Prod.snd (Prod.snd c155)) fun v156 _x =>
 unA v156 fun l159 => unc l159 fun v160 l161 => asI .u8 v160 fun n162 => unc l161 fun v163 l164 => asI .u8 v163 fun n165 => unc l164 fun v166 l167 => asS v166 fun l168 => unc l167 fun v169 l170 => un0 l170 (asOne v169
 (storeS (orc vE) 4 (AV.mp (St.h st) 0) (AV.agg [AV.int .u8 n162, AV.int .u8 n165, AV.str l168, v169]) [AV.int .u8 n162, AV.int .u8 n165, AV.str l168, v169] (Prod.snd (Prod.snd c155)) fun _x st172 _x_2 => loadS 4 true
 (AV.mp (St.h st) 0) st172 fun v174 _x => unA v174 fun l177 => unc l177 fun v178 l179 => asI .u8 v178 fun n180 => unc l179 fun v181 l182 => asI .u8 v181 fun n183 => unc l182 fun v184 l185 => asS v184 fun l186 => unc l185
 fun v187 l188 => un0 l188 (some (AV.agg [AV.int .u8 n180, AV.int .u8 n183, AV.str l186, v187], st172))))))))
theorem w117_eq (x0 x1 : AV) (st : St) : wideS vE 117 [x0, x1] st = w117 x0 x1 st := by kernel_rfl
/-- (*rostrum/parse.parser).neg -/
noncomputable def w129_L1 (x0 : AV) (st6 : St) : Car → Option (Car ⊕ Nat × Car) := fun c25 => un0 (Prod.fst c25) (callS (orc vE) 58 [x0, AV.int .u8 6, AV.str [40]] (Prod.snd c25) fun v26 st27 _x => asB v26 fun b29 =>
 ifB b29 (loadS 4 true (AV.mp (St.h st6) 0) st27 fun v30 l31 => unA v30 fun l33 => unc l33 fun v34 l35 => asI .u8 v34 fun n36 => unc l35 fun v37 l38 => asI .u8 v37 fun n39 => unc l38 fun v40 l41 => asS v40 fun l42 => unc
 l41 fun v43 l44 => un0 l44 (callS (orc vE) 59 [x0, AV.bool false] st27 fun v45 st46 x47 => unA v45 fun l49 => unc l49 fun v50 l51 => asI .u8 v50 fun n52 => unc l51 fun v53 l54 => asI .u8 v53 fun n55 => unc l54 fun v56
 l57 => asS v56 fun l58 => unc l57 fun v59 l60 => un0 l60 (chk (apart (Fx.mk l31 Did.kept) x47 && true) (asOne v43 (asOne v59 (asOne v43 (fit1 v43 fun v61 => asOne v59 (fit1 v59 fun v62 => storeS (orc vE) 4 (AV.mp (St.h
 st6) 0) (AV.agg [AV.int .u8 13, AV.int .u8 0, AV.str [], AV.sl 4 [AV.agg [AV.int .u8 n36, AV.int .u8 n39, AV.str l42, v61], AV.agg [AV.int .u8 n52, AV.int .u8 n55, AV.str l58, v62]] Perm.shut]) [AV.int .u8 13, AV.int
 .u8 0, AV.str [], AV.sl 4 [AV.agg [AV.int .u8 n36, AV.int .u8 n39, AV.str l42, v61], AV.agg [AV.int .u8 n52, AV.int .u8 n55, AV.str l58, v62]] Perm.shut] st46 fun _x st65 _x_1 => some (Sum.inl ([], st65)))))))))) (some
 (Sum.inr (0, [], st27))))
noncomputable def w129 : AV → St → Option (AV × St) := fun x0 st => letSt (St.add st (VM.Obj.cells 27 [AV.int .u8 0, AV.int .u8 0, AV.str [], AV.nils])) fun st0 => callS (orc vE) 38 [x0, AV.sl 1 [AV.str [45], AV.str
 [45, 46]] Perm.shut] st0 fun v1 st2 _x => asB v1 fun b4 => ifB (!b4) (callS (orc vE) 59 [x0, AV.bool false] st2 fun v5 st6 _x => unA v5 fun l9 => unc l9 fun v10 l11 => asI .u8 v10 fun n12 => unc l11 fun v13 l14 => asI
 .u8 v13 fun n15 => unc l14 fun v16 l17 => asS v16 fun l18 => unc l17 fun v19 l20 => un0 l20 (letSt (St.add st6 (VM.Obj.cells 27 [AV.int .u8 0, AV.int .u8 0, AV.str [], AV.nils])) fun st21 => asOne v19 (storeS (orc vE) 4
 (AV.mp (St.h st6) 0) (AV.agg [AV.int .u8 n12, AV.int .u8 n15, AV.str l18, v19]) [AV.int .u8 n12, AV.int .u8 n15, AV.str l18, v19] st21 fun _x st23 _x_1 => bindO (loopO (w129_L1 x0 st6) ([], st23)) fun c67 => un0
 (Prod.fst (Prod.snd c67)) (loadS 4 true (AV.mp (St.h st6) 0) (Prod.snd (Prod.snd c67)) fun v68 _x => unA v68 fun l71 => unc l71 fun v72 l73 => asI .u8 v72 fun n74 => unc l73 fun v75 l76 => asI .u8 v75 fun n77 => unc l76
 fun v78 l79 => asS v78 fun l80 => unc l79 fun v81 l82 => un0 l82 (asOne v81 (storeS (orc vE) 4 (AV.mp (St.h st) 0) (AV.agg [AV.int .u8 n74, AV.int .u8 n77, AV.str l80, v81]) [AV.int .u8 n74, AV.int .u8 n77, AV.str l80,
 v81] (Prod.snd (Prod.snd c67)) fun _x st84 _x_2 => loadS 4 true (AV.mp (St.h st) 0) st84 fun v86 _x => unA v86 fun l89 => unc l89 fun v90 l91 => asI .u8 v90 fun n92 => unc l91 fun v93 l94 => asI .u8 v93 fun n95 => unc
 l94 fun v96 l97 => asS v96 fun l98 => unc l97 fun v99 l100 => un0 l100 (some (AV.agg [AV.int .u8 n92, AV.int .u8 n95, AV.str l98, v99], st84)))))))) (callS (orc vE) 39 [x0] st2 fun v101 st102 _x => unA v101 fun l105 =>
 unc l105 fun v106 l107 => asI .u8 v106 fun n108 => unc l107 fun v109 l110 => asI .u8 v109 fun n111 => unc l110 fun v112 l113 => asS v112 fun l114 => unc l113 fun v115 l116 => un0 l116 (letSt (St.add st102 (VM.Obj.cells
 27 [AV.int .u8 0, AV.int .u8 0, AV.str [], AV.nils])) fun st117 => asOne v115 (storeS (orc vE) 4 (AV.mp (St.h st102) 0) (AV.agg [AV.int .u8 n108, AV.int .u8 n111, AV.str l114, v115]) [AV.int .u8 n108, AV.int .u8 n111,
 AV.str l114, v115] st117 fun _x st119 _x_1 => loadS 4 true (AV.mp (St.h st102) 0) st119 fun v121 l122 => unA v121 fun l124 => unc l124 fun v125 l126 => asI .u8 v125 fun n127 => unc l126 fun v128 l129 => asI .u8 v128 fun
 n130 => unc l129 fun v131 l132 => asS v131 fun l133 => unc l132 fun v134 l135 => un0 l135 (callS (orc vE) 91 [x0, AV.str [101, 120, 112, 114], AV.fn (Fn.func 129) [x0] []] st119 fun v136 st137 x138 => unA v136 fun l140
 => unc l140 fun v141 l142 => asI .u8 v141 fun n143 => unc l142 fun v144 l145 => asI .u8 v144 fun n146 => unc l145 fun v147 l148 => asS v147 fun l149 => unc l148 fun v150 l151 => un0 l151 (chk (apart (Fx.mk l122
 Did.kept) x138 && true) (asOne v134 (asOne v150 (asOne v134 (fit1 v134 fun v152 => asOne v150 (fit1 v150 fun v153 => storeS (orc vE) 4 (AV.mp (St.h st) 0) (AV.agg [AV.int .u8 12, AV.int .u8 0, AV.str [], AV.sl 4 [AV.agg
 [AV.int .u8 n127, AV.int .u8 n130, AV.str l133, v152], AV.agg [AV.int .u8 n143, AV.int .u8 n146, AV.str l149, v153]] Perm.shut]) [AV.int .u8 12, AV.int .u8 0, AV.str [], AV.sl 4 [AV.agg [AV.int .u8 n127, AV.int .u8
 n130, AV.str l133, v152], AV.agg [AV.int .u8 n143, AV.int .u8 n146, AV.str l149, v153]] Perm.shut] st137 fun _x st156 _x_2 => loadS 4 true (AV.mp (St.h st) 0) st156 fun v158 _x => unA v158 fun l161 => unc l161 fun v162
 l163 => asI .u8 v162 fun n164 => unc l163 fun v165 l166 => asI .u8 v165 fun n167 => unc l166 fun v168 l169 => asS v168 fun l170 => unc l169 fun v171 l172 => un0 l172 (some (AV.agg [AV.int .u8 n164, AV.int .u8 n167,
 AV.str l170, v171], st156))))))))))))
theorem w129_eq (x0 : AV) (st : St) : wideS vE 129 [x0] st = w129 x0 st := by kernel_rfl
end Go.Proofs.YtkodpnfdmgbfnaaGreatDoor.Vm
/- Tokens: the library's functions, and the program's ways to cut. -/
set_option maxRecDepth 100000
set_option linter.unusedSimpArgs false
namespace Go.Proofs.YtkodpnfdmgbfnaaGreatDoor.Vm
open Go Go.VM Go.Proofs Go.Lex

theorem all_bytes {p : UInt8 → Bool} (h : ((List.range 256).all fun n => p (UInt8.ofNat n)) = true) (b : UInt8) : p b = true := by
  have := List.all_eq_true.1 h b.toNat (List.mem_range.2 (UInt8.toNat_lt b))
  simpa using this
theorem same_byte {p q : UInt8 → Bool} (h : ((List.range 256).all fun n => p (UInt8.ofNat n) == q (UInt8.ofNat n)) = true) : p = q := by
  funext b
  exact eq_of_beq (all_bytes (p := fun b => p b == q b) h b)
theorem run_ok {s c : List UInt8} {p : UInt8 → Bool} (hc : (c.length.blt 4294967281 && c.all (fun b => b.toNat.blt 128)) = true) (hp : (fun b => c.contains b) = p) (hs : s.length ≤ 1000000) :
    (orc vE).bare 49 [.str s, .str c] = some (.int .i64 (wh p s : Int)) := by
  refine bare_of rfl ((g49_eq _ _).trans ?_)
  have h1 : libTrimLeft [.str s, .str c] = .ok (.str (s.dropWhile p)) := by
    simp only [libTrimLeft, hc, Lib.trimLeftS]
    rw [← hp]
  have h2 := wh_len p s
  have h3 : IntKind.wrap .i64 ((s.length : Int) - ((s.dropWhile p).length : Int)) = (wh p s : Int) := by
    rw [wrapS (by omega) (by omega)]; congr 1; omega
  simp only [g49, asS_str, planS_lib h1, letV_eq, h3]
theorem call_run {β : Type} {s c : List UInt8} {p : UInt8 → Bool} (hc : (c.length.blt 4294967281 && c.all (fun b => b.toNat.blt 128)) = true) (hp : (fun b => c.contains b) = p) (hs : s.length ≤ 1000000) (st : St) (K : Kv β) :
    callS (orc vE) 49 [.str s, .str c] st K = K (.int .i64 (wh p s : Int)) st q0 := callS_bare st K rfl rfl rfl (run_ok hc hp hs)
theorem run_blank {β : Type} {s : List UInt8} (hs : s.length ≤ 1000000) (st : St) (K : Kv β) : callS (orc vE) 49 [.str s, .str [32, 9, 10, 13]] st K = K (.int .i64 (wh isBlank s : Int)) st q0 :=
  call_run rfl (same_byte (by decide +kernel)) hs st K
theorem run_low {β : Type} {s : List UInt8} (hs : s.length ≤ 1000000) (st : St) (K : Kv β) : callS (orc vE) 49 [.str s, .str [97, 98, 99, 100, 101, 102, 103, 104, 105, 106, 107, 108, 109, 110, 111, 112, 113, 114, 115, 116, 117, 118, 119, 120, 121, 122, 95]] st K = K (.int .i64 (wh isLow s : Int)) st q0 :=
  call_run (by decide +kernel) (same_byte (by decide +kernel)) hs st K
theorem run_dig {β : Type} {s : List UInt8} (hs : s.length ≤ 1000000) (st : St) (K : Kv β) : callS (orc vE) 49 [.str s, .str [48, 49, 50, 51, 52, 53, 54, 55, 56, 57]] st K = K (.int .i64 (wh isDig s : Int)) st q0 :=
  call_run rfl (same_byte (by decide +kernel)) hs st K
theorem run_beh {β : Type} {s : List UInt8} (hs : s.length ≤ 1000000) (st : St) (K : Kv β) : callS (orc vE) 49 [.str s, .str [97, 98, 99, 100, 101, 102, 103, 104, 105, 106, 107, 108, 109, 110, 111, 112, 113, 114, 115, 116, 117, 118, 119, 120, 121, 122, 95, 65, 66, 67, 68, 69, 70, 71, 72, 73, 74, 75, 76, 77, 78, 79, 80, 81, 82, 83, 84, 85, 86, 87, 88, 89, 90, 39, 48, 49, 50, 51, 52, 53, 54, 55, 56, 57]] st K = K (.int .i64 (wh isBeh s : Int)) st q0 :=
  call_run (by decide +kernel) (same_byte (by decide +kernel)) hs st K
def isE (c : UInt8) : Bool := c == 101 || c == 69
theorem run_e {β : Type} {s : List UInt8} (hs : s.length ≤ 1000000) (st : St) (K : Kv β) : callS (orc vE) 49 [.str s, .str [101, 69]] st K = K (.int .i64 (wh isE s : Int)) st q0 :=
  call_run rfl (same_byte (by decide +kernel)) hs st K
theorem run_sgn {β : Type} {s : List UInt8} (hs : s.length ≤ 1000000) (st : St) (K : Kv β) : callS (orc vE) 49 [.str s, .str [43, 45]] st K = K (.int .i64 (wh isSgn s : Int)) st q0 :=
  call_run rfl (same_byte (by decide +kernel)) hs st K
theorem run_one {β : Type} {s : List UInt8} (hs : s.length ≤ 1000000) (st : St) (K : Kv β) : callS (orc vE) 49 [.str s, .str [40, 41, 91, 93, 44, 59, 124, 61, 60, 62, 43, 45, 42, 47, 94, 64]] st K = K (.int .i64 (wh isOne s : Int)) st q0 :=
  call_run rfl (same_byte (by decide +kernel)) hs st K
theorem has_ok (s p : List UInt8) : (orc vE).bare 80 [.str s, .str p] = some (.bool (s.take p.length == p)) := by
  refine bare_of rfl ((g80_eq _ _).trans ?_)
  by_cases h : (s.length : Int) ≥ (p.length : Int)
  · simp only [g80, asS_str, ifB_decide, if_pos h, ble_of (show p.length ≤ s.length by omega), chk_true, List.drop_zero, letV_eq, bindO_ok, unc_cons, asB_bool, un0_nil]
  · have e : (s.take p.length == p) = false := by
      rw [beq_eq_false_iff_ne]
      intro e
      have := congrArg List.length e
      rw [List.length_take] at this
      omega
    simp only [g80, asS_str, ifB_decide, if_neg h, bindO_ok, unc_cons, asB_bool, un0_nil, e]
theorem prefix_ok (s p : List UInt8) : (orc vE).bare 50 [.str s, .str p] = some (.bool (s.take p.length == p)) := by
  refine bare_of rfl ((g50_eq _ _).trans ?_)
  have h : ∀ {β : Type} (st : St) (K : Kv β), callS (orc vE) 80 [.str s, .str p] st K = K (.bool (s.take p.length == p)) st q0 := fun st K => callS_bare st K rfl rfl rfl (has_ok s p)
  simp only [g50, asS_str, h, asB_bool]
theorem call_prefix {β : Type} (s p : List UInt8) (st : St) (K : Kv β) : callS (orc vE) 50 [.str s, .str p] st K = K (.bool (s.take p.length == p)) st q0 := callS_bare st K rfl rfl rfl (prefix_ok s p)
theorem trim_ok (s p : List UInt8) : (orc vE).bare 53 [.str s, .str p] = some (.str (if (s.take p.length == p) = true then s.drop p.length else s)) := by
  have h : ∀ {β : Type} (st : St) (K : Kv β), callS (orc vE) 80 [.str s, .str p] st K = K (.bool (s.take p.length == p)) st q0 := fun st K => callS_bare st K rfl rfl rfl (has_ok s p)
  have h2 : (orc vE).bare 84 [.str s, .str p] = some (.str (if (s.take p.length == p) = true then s.drop p.length else s)) := by
    refine bare_of rfl ((g84_eq _ _).trans ?_)
    simp only [g84, asS_str, h, asB_bool]
    cases e : s.take p.length == p with
    | true =>
      have hl : p.length ≤ s.length := by
        have := congrArg List.length (eq_of_beq e)
        rw [List.length_take] at this
        omega
      simp only [ifB_true, ble_of hl, chk_true, List.take_length, letV_eq, if_true]
    | false => rfl
  have h3 : ∀ {β : Type} (st : St) (K : Kv β), callS (orc vE) 84 [.str s, .str p] st K = K (.str (if (s.take p.length == p) = true then s.drop p.length else s)) st q0 := fun st K => callS_bare st K rfl rfl rfl h2
  refine bare_of rfl ((g53_eq _ _).trans ?_)
  simp only [g53, asS_str, h3]
theorem call_trim {β : Type} (s p : List UInt8) (st : St) (K : Kv β) : callS (orc vE) 53 [.str s, .str p] st K = K (.str (if (s.take p.length == p) = true then s.drop p.length else s)) st q0 := callS_bare st K rfl rfl rfl (trim_ok s p)
/-- Where a byte stands. -/
def idxB (s : List UInt8) (c : UInt8) : Int := match findByte c.toNat s with | some i => (i : Int) | none => -1
theorem index_ok (s : List UInt8) (c : UInt8) : (orc vE).bare 54 [.str s, .int .u8 (c.toNat : Int)] = some (.int .i64 (idxB s c)) := by
  have h : (orc vE).bare 85 [.str s, .int .u8 (c.toNat : Int)] = some (.int .i64 (idxB s c)) := by
    refine bare_of rfl ((g85_eq _ _).trans ?_)
    have e : ((c.toNat : Int).toNat % 256) = c.toNat := by
      have := UInt8.toNat_lt c
      omega
    simp only [g85, asS_str, asI_int, planS, outS, primP, planO, bindO_ok, e, idxB]
    rfl
  have h3 : ∀ {β : Type} (st : St) (K : Kv β), callS (orc vE) 85 [.str s, .int .u8 (c.toNat : Int)] st K = K (.int .i64 (idxB s c)) st q0 := fun st K => callS_bare st K rfl rfl rfl h
  refine bare_of rfl ((g54_eq _ _).trans ?_)
  simp only [g54, asS_str, asI_int, h3]
theorem call_index {β : Type} (s : List UInt8) (c : UInt8) (st : St) (K : Kv β) : callS (orc vE) 54 [.str s, .int .u8 (c.toNat : Int)] st K = K (.int .i64 (idxB s c)) st q0 := callS_bare st K rfl rfl rfl (index_ok s c)
/-- The keywords. -/
def wordsV : AV := .im ((.str [95], .int .u8 8) :: words.map fun w => (.str w, .int .u8 3))
def isWordsV : Res AV → Bool
  | .ok (.im [(.str w0, .int .u8 n0), (.str w1, .int .u8 n1), (.str w2, .int .u8 n2), (.str w3, .int .u8 n3), (.str w4, .int .u8 n4), (.str w5, .int .u8 n5), (.str w6, .int .u8 n6), (.str w7, .int .u8 n7), (.str w8, .int .u8 n8), (.str w9, .int .u8 n9), (.str w10, .int .u8 n10), (.str w11, .int .u8 n11), (.str w12, .int .u8 n12)]) =>
    ([w0, w1, w2, w3, w4, w5, w6, w7, w8, w9, w10, w11, w12] == [95] :: words) && ([n0, n1, n2, n3, n4, n5, n6, n7, n8, n9, n10, n11, n12] == 8 :: words.map fun _ => 3)
  | _ => false
theorem isWordsV_ok {r : Res AV} (h : isWordsV r = true) : r = .ok wordsV := by
  unfold isWordsV at h
  split at h
  · simp only [Bool.and_eq_true] at h
    have h1 := eq_of_beq h.1
    have h2 := eq_of_beq h.2
    simp only [words, List.map_cons, List.map_nil, List.cons.injEq, and_true] at h1 h2
    obtain ⟨rfl, rfl, rfl, rfl, rfl, rfl, rfl, rfl, rfl, rfl, rfl, rfl, rfl⟩ := h1
    obtain ⟨rfl, rfl, rfl, rfl, rfl, rfl, rfl, rfl, rfl, rfl, rfl, rfl, rfl⟩ := h2
    rfl
  · cases h
theorem words_ok : (orc vE).bare 51 [] = some wordsV := by
  have h : isWordsV ((caller vE 300).bare 51 []) = true := by kernel_rfl
  exact orc_bare (isWordsV_ok h)
theorem call_words {β : Type} (st : St) (K : Kv β) : callS (orc vE) 51 [] st K = K wordsV st q0 := callS_bare st K rfl rfl rfl words_ok
theorem find_words (w : List UInt8) : ∀ (l : List (List UInt8)), findEntry (.str w) (l.map fun w => (AV.str w, AV.int .u8 3)) = .ok (if l.contains w then some (.int .u8 3) else none)
  | [] => rfl
  | x :: l => by
    have ih := find_words w l
    simp only [List.map_cons, findEntry, keyEq, ok_bind, List.contains_cons]
    cases e : w == x with
    | true => rfl
    | false =>
      simp only [Bool.false_or]
      exact ih
theorem look_words {β : Type} (w : List UInt8) (st : St) (K : Kv β) : planS (orc vE) (lookupP (Env.T vE) 71 wordsV (.str w) true) st K =
    K (.tup [.int .u8 (if w = [95] then 8 else if words.contains w then 3 else 0 : Int), .bool (decide (w = [95]) || words.contains w)]) st q0 := by
  have e1 : ti (Env.T vE) 71 = .ok ⟨.map 9 5, 1, 8, [.nilm], false, false⟩ := rfl
  have e2 : ti (Env.T vE) 5 = .ok ⟨.int .u8, 1, 1, [.int .u8 0], false, false⟩ := rfl
  have e3 : ti (Env.T vE) 9 = .ok ⟨.str, 1, 16, [.str []], false, false⟩ := rfl
  have e4 : findEntry (.str w) ((.str [95], .int .u8 8) :: words.map fun w => (.str w, .int .u8 3)) = .ok (if w = [95] then some (.int .u8 8) else if words.contains w then some (.int .u8 3) else none) := by
    simp only [findEntry, keyEq, ok_bind]
    cases e : w == [95] with
    | true => rw [if_pos (eq_of_beq e)]; rfl
    | false => rw [if_neg (by simpa using e)]; exact find_words w words
  have e5 : lookupP (Env.T vE) 71 wordsV (.str w) true = .ok (.val (.tup [.int .u8 (if w = [95] then 8 else if words.contains w then 3 else 0 : Int), .bool (decide (w = [95]) || words.contains w)])) := by
    simp only [lookupP, e1, e2, e3, ok_bind, keyOk, wordsV, found, e4]
    by_cases h : w = [95]
    · simp [h]; rfl
    · cases h2 : words.contains w <;> simp [h] <;> rfl
  rw [e5]; rfl

theorem blank_ok {s : List UInt8} (hs : s.length ≤ 1000000) : (orc vE).bare 30 [.str s] = some (.tup [.int .u8 1, .int .i64 (wh isBlank s : Int)]) := by
  refine bare_of rfl ((g30_eq _).trans ?_)
  simp only [g30, asS_str, run_blank hs, asI_int]
theorem remark_loop (s : List UInt8) (hs : s.length ≤ 1000000) (st : St) : ∀ (l : List UInt8) (i d : Nat), s.drop i = l → i ≤ s.length → 1 ≤ d → d ≤ i →
    loopO (g31_L1 s) ([.int .i64 (d : Int), .int .u8 0, .int .i64 0, .int .i64 (i : Int)], st) = some (match rem l d with | some n => (1, [.int .u8 2, .int .i64 ((i + n : Nat) : Int)], st) | none => (0, [.int .u8 0, .int .i64 0], st))
  | [], i, d, hd, hi, h1, h2 => by
    have := List.drop_eq_nil_iff.1 hd
    have q : ¬ (i : Int) < (s.length : Int) := by omega
    refine loopO_inr ?_
    simp only [g31_L1, unc_cons, asI_int, un0_nil, ifB_decide, if_neg q]
    rfl
  | [a], i, d, hd, hi, h1, h2 => by
    obtain ⟨hg, hr, hlt⟩ := drop_cons hd
    have q : (i : Int) < (s.length : Int) := by omega
    have ih := remark_loop s hs st [] (i + 1) d hr (by omega) h1 (by omega)
    rw [loopO_inl (s' := ([.int .i64 (d : Int), .int .u8 0, .int .i64 0, .int .i64 ((i + 1 : Nat) : Int)], st)), ih]
    · rfl
    · simp only [g31_L1, unc_cons, asI_int, un0_nil, ifB_decide, if_pos q, uptoS_nat (show i ≤ s.length by omega), List.take_length, letV_eq, hd, call_prefix, asB_bool]
      simp only [show ([a].take [(40 : UInt8), 42].length == [40, 42]) = false by simp, show ([a].take [(42 : UInt8), 41].length == [42, 41]) = false by simp, ifB_false, bindO_ok, onSum_inl, unc_cons, asI_int, un0_nil, wrapA1 (show i + 1 ≤ 9223372036854775807 by omega)]
  | a :: b :: l, i, d, hd, hi, h1, h2 => by
    obtain ⟨hg, hr, hlt⟩ := drop_cons hd
    obtain ⟨hg2, hr2, hlt2⟩ := drop_cons hr
    have q : (i : Int) < (s.length : Int) := by omega
    have t1 : ((a :: b :: l).take [(40 : UInt8), 42].length == [40, 42]) = (decide (a = 40 ∧ b = 42)) := by
      show ([a, b] == [40, 42]) = _
      by_cases h : a = 40 ∧ b = 42
      · rw [h.1, h.2]; rfl
      · rw [decide_eq_false h, beq_eq_false_iff_ne]
        intro e
        simp only [List.cons.injEq, and_true] at e
        exact h e
    have t2 : ((a :: b :: l).take [(42 : UInt8), 41].length == [42, 41]) = (decide (a = 42 ∧ b = 41)) := by
      show ([a, b] == [42, 41]) = _
      by_cases h : a = 42 ∧ b = 41
      · rw [h.1, h.2]; rfl
      · rw [decide_eq_false h, beq_eq_false_iff_ne]
        intro e
        simp only [List.cons.injEq, and_true] at e
        exact h e
    by_cases c1 : a = 40 ∧ b = 42
    · have ih := remark_loop s hs st l (i + 2) (d + 1) hr2 (by omega) (by omega) (by omega)
      rw [loopO_inl (s' := ([.int .i64 ((d + 1 : Nat) : Int), .int .u8 0, .int .i64 0, .int .i64 ((i + 2 : Nat) : Int)], st)), ih]
      · simp only [rem, if_pos c1]
        cases rem l (d + 1) with
        | none => rfl
        | some n => simp only [Option.map_some]; rw [show i + 2 + n = i + (n + 2) by omega]
      · simp only [g31_L1, unc_cons, asI_int, un0_nil, ifB_decide, if_pos q, uptoS_nat (show i ≤ s.length by omega), List.take_length, letV_eq, hd, call_prefix, asB_bool, t1, if_pos c1, bindO_ok, onSum_inl, wrapA1 (show d + 1 ≤ 9223372036854775807 by omega), wrapA2 (show i + 2 ≤ 9223372036854775807 by omega)]
    · by_cases c2 : a = 42 ∧ b = 41
      · have w := wrapS (n := d) (m := 1) h1 (by omega)
        have w : IntKind.wrap .i64 ((d : Int) - 1) = ((d - 1 : Nat) : Int) := w
        by_cases c3 : d = 1
        · subst c3
          simp only [rem, if_neg c1, if_pos c2, if_true]
          refine loopO_inr ?_
          simp only [g31_L1, unc_cons, asI_int, un0_nil, ifB_decide, if_pos q, uptoS_nat (show i ≤ s.length by omega), List.take_length, letV_eq, hd, call_prefix, asB_bool, t1, t2, if_neg c1, if_pos c2, bindO_ok, w, wrapA2 (show i + 2 ≤ 9223372036854775807 by omega), ifB_beq]
          rfl
        · have ih := remark_loop s hs st l (i + 2) (d - 1) hr2 (by omega) (by omega) (by omega)
          have z : ¬ ((d - 1 : Nat) : Int) = 0 := by omega
          rw [loopO_inl (s' := ([.int .i64 ((d - 1 : Nat) : Int), .int .u8 0, .int .i64 0, .int .i64 ((i + 2 : Nat) : Int)], st)), ih]
          · simp only [rem, if_neg c1, if_pos c2, if_neg c3]
            cases rem l (d - 1) with
            | none => rfl
            | some n => simp only [Option.map_some]; rw [show i + 2 + n = i + (n + 2) by omega]
          · simp only [g31_L1, unc_cons, asI_int, un0_nil, ifB_decide, if_pos q, uptoS_nat (show i ≤ s.length by omega), List.take_length, letV_eq, hd, call_prefix, asB_bool, t1, t2, if_neg c1, if_pos c2, bindO_ok, w, wrapA2 (show i + 2 ≤ 9223372036854775807 by omega), ifB_beq, if_neg z, onSum_inl]
      · have ih := remark_loop s hs st (b :: l) (i + 1) d hr (by omega) h1 (by omega)
        rw [loopO_inl (s' := ([.int .i64 (d : Int), .int .u8 0, .int .i64 0, .int .i64 ((i + 1 : Nat) : Int)], st)), ih]
        · simp only [rem, if_neg c1, if_neg c2]
          cases rem (b :: l) d with
          | none => rfl
          | some n => simp only [Option.map_some]; rw [show i + 1 + n = i + (n + 1) by omega]
        · simp only [g31_L1, unc_cons, asI_int, un0_nil, ifB_decide, if_pos q, uptoS_nat (show i ≤ s.length by omega), List.take_length, letV_eq, hd, call_prefix, asB_bool, t1, t2, if_neg c1, if_neg c2, bindO_ok, onSum_inl, wrapA1 (show i + 1 ≤ 9223372036854775807 by omega)]
theorem remark_ok {s : List UInt8} (hs : s.length ≤ 1000000) : (orc vE).bare 31 [.str s] = some (if s.take 2 = [40, 42] then (match rem (s.drop 2) 1 with | some n => .tup [.int .u8 2, .int .i64 ((n + 2 : Nat) : Int)] | none => .tup [.int .u8 9, .int .i64 (s.length : Int)]) else .tup [.int .u8 0, .int .i64 0]) := by
  refine bare_of rfl ((g31_eq _).trans ?_)
  by_cases h : s.take 2 = [40, 42]
  · have h' : (s.take [(40 : UInt8), 42].length == [40, 42]) = true := by simpa using h
    have hl : 2 ≤ s.length := by
      have := congrArg List.length h
      rw [List.length_take] at this
      simp at this; omega
    have q : (0 : Int) < (s.length : Int) := by omega
    have e : loopO (g31_L1 s) ([.int .i64 0, .int .u8 0, .int .i64 0, .int .i64 0], St.mk 0 0 Tr.leaf) = some (match rem (s.drop 2) 1 with | some n => (1, [.int .u8 2, .int .i64 ((2 + n : Nat) : Int)], St.mk 0 0 Tr.leaf) | none => (0, [.int .u8 0, .int .i64 0], St.mk 0 0 Tr.leaf)) := by
      rw [loopO_inl (s' := ([.int .i64 ((1 : Nat) : Int), .int .u8 0, .int .i64 0, .int .i64 ((2 : Nat) : Int)], St.mk 0 0 Tr.leaf)), remark_loop s hs (St.mk 0 0 Tr.leaf) (s.drop 2) 2 1 rfl hl (by omega) (by omega)]
      simp only [g31_L1, unc_cons, asI_int, un0_nil, ifB_decide, if_pos q, show uptoS (0 : Int) s.length = uptoS ((0 : Nat) : Int) s.length from rfl, uptoS_nat (show 0 ≤ s.length by omega), List.take_length, List.drop_zero, letV_eq, call_prefix, asB_bool, h', ifB_true, bindO_ok, onSum_inl]
      rfl
    simp only [g31, asS_str, call_prefix, asB_bool, h', Bool.not_true, ifB_false, if_pos h]
    rw [e]
    cases rem (s.drop 2) 1 with
    | none => simp only [bindO_ok, unc_cons, asI_int, un0_nil, sel2_zero]
    | some n => simp only [bindO_ok, unc_cons, asI_int, un0_nil, sel2_one]; rw [Nat.add_comm 2 n]
  · have h' : (s.take [(40 : UInt8), 42].length == [40, 42]) = false := by simpa using h
    simp only [g31, asS_str, call_prefix, asB_bool, h', Bool.not_false, ifB_true, if_neg h]
theorem name_ok {c : UInt8} {l : List UInt8} (hs : (c :: l).length ≤ 1000000) : (orc vE).bare 32 [.str (c :: l)] = some (if isLow c then .tup [.int .u8 (nameK ((c :: l).takeWhile isBeh) : Int), .int .i64 (wh isBeh (c :: l) : Int)] else .tup [.int .u8 0, .int .i64 0]) := by
  refine bare_of rfl ((g32_eq _).trans ?_)
  have h1 : (List.drop 0 (List.take 1 (c :: l))) = [c] := rfl
  have h2 : wh isLow [c] = if isLow c then 1 else 0 := by rw [wh_cons]; rfl
  simp only [g32, asS_str, ble_of (show 1 ≤ (c :: l).length by simp), chk_true, letV_eq, h1, run_low (show [c].length ≤ 1000000 by simp), asI_int, ifB_beq, h2]
  cases hc : isLow c with
  | false => rfl
  | true =>
    simp only [if_true, show ¬ (((1 : Nat) : Int) = 0) by omega, if_false, run_beh hs, asI_int, call_words, apart_kept, apart_kept2, Bool.and_self, chk_true, uptoS_nat (wh_le isBeh (c :: l)), List.drop_zero, letV_eq, wh_take, look_words, unT_tup, nthS_zero, nthS_one, asB_bool]
    generalize (c :: l).takeWhile isBeh = w
    unfold nameK
    by_cases e1 : w = [95]
    · simp [e1]
    · cases e2 : words.contains w <;> simp [e1] <;> rfl
end Go.Proofs.YtkodpnfdmgbfnaaGreatDoor.Vm
/- Tokens: numbers, by the program. -/
set_option maxRecDepth 100000
set_option linter.unusedSimpArgs false
namespace Go.Proofs.YtkodpnfdmgbfnaaGreatDoor.Vm
open Go Go.VM Go.Proofs Go.Lex

theorem numV_ge : ∀ (l : List UInt8) (a : Nat), a ≤ numV a l
  | [], a => by rw [numV_nil]; exact Nat.le_refl _
  | c :: l, a => by
    have := numV_ge l (stepV a c)
    rw [numV_cons]
    unfold stepV at this ⊢
    omega
theorem parse_digs : ∀ (l : List UInt8) (a : Nat), l.all isDig = true → a < 18446744073709551616 → Lib.parseUint10 a l = if numV a l < 18446744073709551616 then .ok (numV a l) else .range
  | [], a, _, ha => by rw [numV_nil, if_pos ha, Lib.parseUint10]
  | c :: l, a, h, ha => by
    simp only [List.all_cons, Bool.and_eq_true] at h
    have hc : 48 ≤ c.toNat ∧ c.toNat ≤ 57 := by
      have := h.1
      simp only [isDig, Bool.and_eq_true, decide_eq_true_eq] at this
      exact this
    have hg := numV_ge l (stepV a c)
    have hs : a * 10 + (c.toNat - 48) = stepV a c := id rfl
    have hs2 : a * 10 ≤ stepV a c := by rw [← hs]; omega
    rw [Lib.parseUint10, if_pos hc, numV_cons, hs]
    by_cases c1 : 1844674407370955162 ≤ a
    · rw [if_pos c1, if_neg (by omega)]
    · rw [if_neg c1]
      by_cases c2 : 18446744073709551616 ≤ stepV a c
      · rw [if_pos c2, if_neg (by omega)]
      · rw [if_neg c2]
        exact parse_digs l _ h.2 (by omega)
/-- What Atoi makes of digits behind a sign. -/
theorem atoi_plain {l : List UInt8} (hne : l ≠ []) (h : l.all isDig = true) : Lib.atoiAll l = if numV 0 l < 9223372036854775808 then .ok (numV 0 l : Int) else .range := by
  cases l with
  | nil => exact absurd rfl hne
  | cons c r =>
    have hc : 48 ≤ c.toNat ∧ c.toNat ≤ 57 := by
      simp only [List.all_cons, Bool.and_eq_true] at h
      have := h.1
      simp only [isDig, Bool.and_eq_true, decide_eq_true_eq] at this
      exact this
    have n1 : ¬ (c.toNat = 43 ∨ c.toNat = 45) := by omega
    have n2 : ¬ c.toNat = 45 := by omega
    have hp := parse_digs (c :: r) 0 h (by omega)
    simp only [Lib.atoiAll, if_neg n1, Lib.parseMag, if_neg hne, hp]
    by_cases c1 : numV 0 (c :: r) < 18446744073709551616
    · rw [if_pos c1]
      dsimp only
      by_cases c2 : numV 0 (c :: r) < 9223372036854775808
      · rw [if_pos c2, if_neg (by omega), if_neg (by omega), if_neg n2]
      · rw [if_neg c2, if_pos (by omega)]
    · rw [if_neg c1, if_neg (by omega)]
theorem atoi_minus {l : List UInt8} (hne : l ≠ []) (h : l.all isDig = true) : Lib.atoiAll (45 :: l) = if numV 0 l ≤ 9223372036854775808 then .ok (-(numV 0 l : Int)) else .range := by
  have e : (45 : UInt8).toNat = 45 := rfl
  have hp := parse_digs l 0 h (by omega)
  simp only [Lib.atoiAll, e, or_true, if_true, Lib.parseMag, if_neg hne, hp]
  by_cases c1 : numV 0 l < 18446744073709551616
  · rw [if_pos c1]
    dsimp only
    by_cases c2 : numV 0 l ≤ 9223372036854775808
    · rw [if_pos c2, if_neg (by simp), if_neg (by omega)]
    · rw [if_neg c2, if_neg (by simp), if_pos ⟨trivial, by omega⟩]
  · rw [if_neg c1, if_neg (by omega)]
theorem takeWhile_all (p : UInt8 → Bool) (l : List UInt8) : (l.takeWhile p).all p = true := by
  induction l with
  | nil => rfl
  | cons c l ih =>
    rw [List.takeWhile_cons]
    split
    · rename_i h; simp [h, ih]
    · rfl
/-- Is a Float's power out of range? -/
def farP (k : Nat) (x : Int) : Bool := decide (x - k < -22) || decide (x - k > 22)
theorem wrap_low {n : Int} (h1 : n < -9223372036854775808) (h2 : -18446744073709551616 ≤ n) : IntKind.wrap .i64 n = n + 18446744073709551616 := by
  have e : IntKind.wrap .i64 n = if n % 18446744073709551616 ≥ 9223372036854775808 then n % 18446744073709551616 - 18446744073709551616 else n % 18446744073709551616 := by
    show (if (true && decide (n % (2 ^ 64 : Int) ≥ (2 ^ 63 : Int))) = true then n % (2 ^ 64 : Int) - (2 ^ 64 : Int) else n % (2 ^ 64 : Int)) = _
    simp
  rw [e]
  split <;> omega
/-- What the program makes of an exponent's digits: near its value, or as far. -/
structure Near (k v : Nat) (neg : Bool) (x : Int) : Prop where
  lo : -9223372036854775808 ≤ x
  hi : x ≤ 9223372036854775807
  eq : v ≤ 1000000 → x = if neg then -(v : Int) else v
  far : 1000000 < v → 1000000 < x ∨ x < -1000000
theorem near_far {k v : Nat} {neg : Bool} {x : Int} (h : Near k v neg x) (hk : k ≤ 500000) :
    (decide (IntKind.wrap .i64 (x - k) < -22) || decide (IntKind.wrap .i64 (x - k) > 22)) = farP k (if neg then -((min v 1000000 : Nat) : Int) else ((min v 1000000 : Nat) : Int)) := by
  obtain ⟨h1, h2, h3, h4⟩ := h
  have hw : (IntKind.wrap .i64 (x - k) = x - k) ∨ (x - k < -9223372036854775808 ∧ IntKind.wrap .i64 (x - k) = x - k + 18446744073709551616) := by
    by_cases c : -9223372036854775808 ≤ x - k
    · exact .inl (wrap_i64 c (by omega))
    · exact .inr ⟨by omega, wrap_low (by omega) (by omega)⟩
  unfold farP
  by_cases hv : v ≤ 1000000
  · have hx := h3 hv
    have hw : IntKind.wrap .i64 (x - k) = x - k := by
      rcases hw with hw | ⟨hw, _⟩
      · exact hw
      · exfalso
        cases neg <;> simp at hx <;> omega
    rw [hw, Nat.min_eq_left hv, hx]
  · have hx := h4 (by omega)
    rw [Nat.min_eq_right (by omega)]
    have l : (decide (IntKind.wrap .i64 (x - k) < -22) || decide (IntKind.wrap .i64 (x - k) > 22)) = true := by
      rw [Bool.or_eq_true, decide_eq_true_eq, decide_eq_true_eq]
      rcases hw with hw | ⟨_, hw⟩ <;> rw [hw] <;> omega
    have r : ∀ y : Int, (y = 1000000 ∨ y = -1000000) → (decide (y - (k : Int) < -22) || decide (y - (k : Int) > 22)) = true := by
      intro y hy
      rw [Bool.or_eq_true, decide_eq_true_eq, decide_eq_true_eq]
      omega
    rw [l]
    cases neg
    · exact (r _ (.inl rfl)).symm
    · exact (r _ (.inr rfl)).symm
theorem neq_nil : nifS BinOp.neq AV.nili = some (.bool false) := rfl
theorem neq_err (t : TypeId) (v : AV) : nifS BinOp.neq (AV.iface t v) = some (.bool true) := rfl
/-- An exponent: TrimPrefix, then Atoi. -/
theorem atoi_near {l : List UInt8} (hs : l.length ≤ 1000000) {d : Nat} (hd : wh isDig (l.drop (sgn l)) = d) (h0 : 0 < d) (k : Nat) :
    ∃ x : Int, Near k (numV 0 ((l.drop (sgn l)).take d)) (decide (l.head? = some 45)) x ∧ ∀ {β : Type} (st : St) (K : Int → Car → Option β),
      (planS (orc vE) (primP (Prim.lib (libAtoi 121)) [AV.str (if ((l.take (sgn l + d)).take [(43 : UInt8)].length == [43]) = true then (l.take (sgn l + d)).drop [(43 : UInt8)].length else l.take (sgn l + d))]) st fun v63 st64 _x => unT v63 fun l66 => nthS l66 0 fun v67 => asI .i64 v67 fun n68 => unT v63 fun l69 => nthS l69 1 fun v70 => bindO (nifS BinOp.neq v70) fun v71 => asB
 v71 fun b72 => bindO (ifB b72 (some (([AV.int .i64 1073741824], st64) : Car)) (some ([AV.int .i64 n68], st64))) fun c73 => unc (Prod.fst c73) fun v74 l75 => asI .i64 v74 fun n76 => un0 l75 (K n76 c73)) = K x ([AV.int .i64 x], st) := by
  have hD : (l.drop (sgn l)).take d = (l.drop (sgn l)).takeWhile isDig := by rw [← hd, wh_take]
  have hall : ((l.drop (sgn l)).take d).all isDig = true := by rw [hD]; exact takeWhile_all _ _
  have hlen : ((l.drop (sgn l)).take d).length = d := by rw [hD, ← hd]; rfl
  have hne : (l.drop (sgn l)).take d ≠ [] := by
    intro e
    rw [e] at hlen
    simp at hlen; omega
  have fin : ∀ (D : List UInt8), D.length ≤ 1000001 → ∀ {β : Type} (st : St) (K : Int → Car → Option β) (x : Int), (Lib.atoiAll D = .ok x ∨ (Lib.atoiAll D = .range ∧ x = 1073741824)) →
      (planS (orc vE) (primP (Prim.lib (libAtoi 121)) [AV.str D]) st fun v63 st64 _x => unT v63 fun l66 => nthS l66 0 fun v67 => asI .i64 v67 fun n68 => unT v63 fun l69 => nthS l69 1 fun v70 => bindO (nifS BinOp.neq v70) fun v71 => asB
 v71 fun b72 => bindO (ifB b72 (some (([AV.int .i64 1073741824], st64) : Car)) (some ([AV.int .i64 n68], st64))) fun c73 => unc (Prod.fst c73) fun v74 l75 => asI .i64 v74 fun n76 => un0 l75 (K n76 c73)) = K x ([AV.int .i64 x], st) := by
    intro D hDl β st K x hx
    rcases hx with hx | ⟨hx, rfl⟩
    · have hl : libAtoi 121 [.str D] = .ok (.tup [.int .i64 x, .nili]) := by simp only [libAtoi, ble_of (show D.length ≤ 281474976710656 by omega), hx]
      simp only [planS_lib hl, unT_tup, nthS_zero, nthS_one, asI_int, neq_nil, bindO_ok, asB_bool, ifB_false, unc_cons, un0_nil]
    · have hl : libAtoi 121 [.str D] = .ok (.tup [.int .i64 (Lib.atoiSat D), .iface 121 (.opq false)]) := by simp only [libAtoi, ble_of (show D.length ≤ 281474976710656 by omega), hx]
      simp only [planS_lib hl, unT_tup, nthS_zero, nthS_one, asI_int, neq_err, bindO_ok, asB_bool, ifB_true, unc_cons, un0_nil]
  cases l with
  | nil => simp [sgn] at hne
  | cons c r =>
    by_cases c1 : c = 43
    · subst c1
      have e1 : sgn ((43 : UInt8) :: r) = 1 := rfl
      rw [e1] at hall hlen hne hD ⊢
      simp only [List.drop_succ_cons, List.drop_zero] at hall hlen hne hD ⊢
      have hp := atoi_plain hne hall
      have e2 : (if (((43 :: r).take (1 + d)).take [(43 : UInt8)].length == [43]) = true then ((43 : UInt8) :: r |>.take (1 + d)).drop [(43 : UInt8)].length else (43 :: r).take (1 + d)) = r.take d := by
        rw [Nat.add_comm 1 d]; rfl
      rw [e2]
      by_cases c2 : numV 0 (r.take d) < 9223372036854775808
      · rw [if_pos c2] at hp
        exact ⟨numV 0 (r.take d), ⟨by omega, by omega, fun _ => by simp, fun _ => by omega⟩, fun st K => fin _ (by rw [List.length_take]; simp at hs; omega) st K _ (.inl hp)⟩
      · rw [if_neg c2] at hp
        exact ⟨1073741824, ⟨by omega, by omega, fun _ => by omega, fun _ => by omega⟩, fun st K => fin _ (by rw [List.length_take]; simp at hs; omega) st K _ (.inr ⟨hp, rfl⟩)⟩
    · by_cases c3 : c = 45
      · subst c3
        have e1 : sgn ((45 : UInt8) :: r) = 1 := rfl
        rw [e1] at hall hlen hne hD ⊢
        simp only [List.drop_succ_cons, List.drop_zero] at hall hlen hne hD ⊢
        have hp := atoi_minus hne hall
        have e2 : (if (((45 :: r).take (1 + d)).take [(43 : UInt8)].length == [43]) = true then ((45 : UInt8) :: r |>.take (1 + d)).drop [(43 : UInt8)].length else (45 :: r).take (1 + d)) = 45 :: r.take d := by
          rw [Nat.add_comm 1 d]; rfl
        rw [e2]
        by_cases c2 : numV 0 (r.take d) ≤ 9223372036854775808
        · rw [if_pos c2] at hp
          exact ⟨-(numV 0 (r.take d) : Int), ⟨by omega, by omega, fun _ => by simp, fun _ => by omega⟩, fun st K => fin _ (by rw [List.length_cons, List.length_take]; simp at hs; omega) st K _ (.inl hp)⟩
        · rw [if_neg c2] at hp
          exact ⟨1073741824, ⟨by omega, by omega, fun _ => by omega, fun _ => by omega⟩, fun st K => fin _ (by rw [List.length_cons, List.length_take]; simp at hs; omega) st K _ (.inr ⟨hp, rfl⟩)⟩
      · have hsg : isSgn c = false := by simp [isSgn, c1, c3]
        have e1 : sgn (c :: r) = 0 := by simp only [sgn, hsg]; rfl
        rw [e1] at hall hlen hne hD ⊢
        simp only [List.drop_zero, Nat.zero_add] at hall hlen hne hD ⊢
        have hp := atoi_plain hne hall
        have e2 : (if (((c :: r).take d).take [(43 : UInt8)].length == [43]) = true then ((c :: r).take d).drop [(43 : UInt8)].length else (c :: r).take d) = (c :: r).take d := by
          rw [if_neg]
          intro e
          have e := eq_of_beq e
          cases d with
          | zero => simp at h0
          | succ d => simp at e; exact c1 e
        rw [e2]
        by_cases c2 : numV 0 ((c :: r).take d) < 9223372036854775808
        · rw [if_pos c2] at hp
          exact ⟨numV 0 ((c :: r).take d), ⟨by omega, by omega, fun _ => by simp [c3], fun _ => by omega⟩, fun st K => fin _ (by rw [List.length_take]; omega) st K _ (.inl hp)⟩
        · rw [if_neg c2] at hp
          exact ⟨1073741824, ⟨by omega, by omega, fun _ => by omega, fun _ => by omega⟩, fun st K => fin _ (by rw [List.length_take]; omega) st K _ (.inr ⟨hp, rfl⟩)⟩
theorem wh_one (p : UInt8 → Bool) (c : UInt8) (l : List UInt8) : wh p ((c :: l).take 1) = if p c then 1 else 0 := by
  show wh p [c] = _
  rw [wh_cons]; rfl
theorem min_take (s : List UInt8) (e : Nat) : s.take (min s.length e) = s.take e := by
  rcases Nat.le_total e s.length with h | h
  · rw [Nat.min_eq_right h]
  · rw [Nat.min_eq_left h, List.take_length, List.take_of_length_le h]
theorem min_int (a b : Nat) : (if (a : Int) < (b : Int) then (a : Int) else (b : Int)) = ((min a b : Nat) : Int) := by split <;> omega
theorem take_drop_one (s : List UInt8) (e n : Nat) : (s.take (e + n)).drop e = (s.drop e).take n := by
  rw [List.drop_take]; congr 1; omega
theorem last_part {all k : Nat} {x : Int} {e : Int} (st : St) (b : Bool) (hb : (decide (IntKind.wrap .i64 (x - k) < -22) || decide (IntKind.wrap .i64 (x - k) > 22)) = b) :
    (bindO (ifB (decide ((all : Int) > 15)) (some (([AV.bool true], st) : Car)) (letV (IntKind.wrap .i64 (x - (k : Int))) fun n94 => ifB (decide (n94 < -22)) (some ([AV.bool true], st)) (letV (IntKind.wrap .i64 (x - (k : Int))) fun n95 => some ([AV.bool (decide (n95 > 22))], st)))) fun c96 =>
 unc (Prod.fst c96) fun v97 l98 => asB v97 fun b99 => un0 l98 (ifB b99 (some (AV.tup [AV.int .u8 9, AV.int .i64 e])) (some (AV.tup [AV.int .u8 6, AV.int .i64 e])))) = some (AV.tup [AV.int .u8 (if all > 15 ∨ b = true then 9 else 6 : Int), AV.int .i64 e]) := by
  simp only [ifB_decide, letV_eq]
  by_cases c1 : (all : Int) > 15
  · have : all > 15 := by omega
    simp only [if_pos c1, bindO_ok, unc_cons, asB_bool, un0_nil, ifB_true, this, true_or, if_true]
  · have h1 : ¬ all > 15 := by omega
    rw [if_neg c1]
    by_cases c2 : IntKind.wrap .i64 (x - (k : Int)) < -22
    · have : b = true := by rw [← hb, decide_eq_true c2]; rfl
      subst this
      simp only [if_pos c2, bindO_ok, unc_cons, asB_bool, un0_nil, ifB_true, or_true, if_true]
    · rw [if_neg c2]
      have : b = decide (IntKind.wrap .i64 (x - (k : Int)) > 22) := by rw [← hb, decide_eq_false c2]; rfl
      subst this
      simp only [bindO_ok, unc_cons, asB_bool, un0_nil, h1, false_or]
      cases decide (IntKind.wrap .i64 (x - (k : Int)) > 22) <;> rfl
theorem number_ok {s : List UInt8} (hs : s.length ≤ 500000) : (orc vE).bare 33 [.str s] = some (if wh isDig s = 0 then .tup [.int .u8 5, .int .i64 0] else .tup [.int .u8 ((number s).1 : Int), .int .i64 ((number s).2 : Int)]) := by
  refine bare_of rfl ((g33_eq _).trans ?_)
  have hn := wh_le isDig s
  simp only [g33, asS_str, run_dig (show s.length ≤ 1000000 by omega), asI_int, ifB_beq]
  by_cases c0 : wh isDig s = 0
  · have c0' : ((wh isDig s : Nat) : Int) = 0 := by omega
    rw [if_pos c0', if_pos c0, c0]
    rfl
  have c0' : ¬ ((wh isDig s : Nat) : Int) = 0 := by omega
  simp only [if_neg c0', if_neg c0, uptoS_nat hn, List.take_length, letV_eq, call_prefix, asB_bool, bindO_ok, unc_cons, un0_nil]
  generalize hN : wh isDig s = n at hn c0 c0'
  have hpre : ((s.drop n).take [(46 : UInt8)].length == [46]) = decide ((s.drop n).head? = some 46) := by
    cases s.drop n with
    | nil => rfl
    | cons c l =>
      show ([c] == [46]) = _
      by_cases h : c = 46
      · subst h; rfl
      · simp [h]
  rw [hpre]
  unfold number
  rw [hN]
  by_cases cd : (s.drop n).head? = some 46
  · have hlt : n < s.length := by
      rcases Nat.lt_or_ge n s.length with q | q
      · exact q
      · rw [List.drop_of_length_le q] at cd; cases cd
    simp only [cd, decide_true, Bool.not_true, ifB_false, if_true]
    have hk := wh_le isDig (s.drop (n + 1))
    rw [List.length_drop] at hk
    have hl2 : (s.drop (n + 1)).length ≤ 1000000 := by rw [List.length_drop]; omega
    simp only [wrapA1 (show n + 1 ≤ 9223372036854775807 by omega), uptoS_nat (show n + 1 ≤ s.length by omega), List.take_length, run_dig hl2, asI_int]
    generalize hK : wh isDig (s.drop (n + 1)) = k at hk
    simp only [wrapA (show n + k ≤ 9223372036854775807 by omega), wrapA (show n + 1 + k ≤ 9223372036854775807 by omega), wrapA1 (show n + 1 + k + 1 ≤ 9223372036854775807 by omega), min_int, uptoS_nat (Nat.min_le_left s.length (n + 1 + k + 1)), uptoS_nat (show n + 1 + k ≤ min s.length (n + 1 + k + 1) by omega), min_take, take_drop_one]
    generalize hE : n + 1 + k = e at *
    have hle : e ≤ s.length := by omega
    have hl3 : ((s.drop e).take 1).length ≤ 1000000 := by rw [List.length_take, List.length_drop]; omega
    simp only [run_e hl3, asI_int, ifB_decide]
    have none_case : ∀ (x : Nat × Int), x = (0, 0) → (bindO (ifB (decide (((n + k : Nat) : Int) > 15)) (some (([AV.bool true], St.mk 0 0 Tr.leaf) : Car)) (letV (IntKind.wrap .i64 ((0 : Int) - (k : Int))) fun n94 => ifB (decide (n94 < -22)) (some ([AV.bool true], St.mk 0 0 Tr.leaf)) (letV (IntKind.wrap .i64 ((0 : Int) - (k : Int))) fun n95 => some ([AV.bool (decide (n95 > 22))], St.mk 0 0 Tr.leaf)))) fun c96 =>
 unc (Prod.fst c96) fun v97 l98 => asB v97 fun b99 => un0 l98 (ifB b99 (some (AV.tup [AV.int .u8 9, AV.int .i64 (e : Int)])) (some (AV.tup [AV.int .u8 6, AV.int .i64 (e : Int)])))) = some (AV.tup [AV.int .u8 ((if n + k > 15 ∨ x.2 - (k : Int) < -22 ∨ x.2 - (k : Int) > 22 then 9 else 6 : Nat) : Int), AV.int .i64 ((e + x.1 : Nat) : Int)]) := by
      rintro _ rfl
      have hw : IntKind.wrap .i64 ((0 : Int) - (k : Int)) = 0 - (k : Int) := wrap_i64 (by omega) (by omega)
      rw [last_part (St.mk 0 0 Tr.leaf) (decide ((0 : Int) - k < -22) || decide ((0 : Int) - k > 22)) (by rw [hw])]
      simp only [Bool.or_eq_true, decide_eq_true_eq, Nat.add_zero]
      by_cases h : n + k > 15 ∨ (0 : Int) - (k : Int) < -22 ∨ (0 : Int) - (k : Int) > 22
      · rw [if_pos h, if_pos h]; rfl
      · rw [if_neg h, if_neg h]; rfl
    simp only [ifB_decide, letV_eq] at none_case
    cases ht : s.drop e with
    | nil =>
      have h0 : ¬ (((wh isE ([].take 1) : Nat) : Int) > 0) := by simp [wh]
      simp only [if_neg h0, bindO_ok, unc_cons, asI_int, un0_nil]
      exact none_case _ rfl
    | cons c l =>
      have hcl : s.drop (e + 1) = l := by rw [← List.drop_drop, ht]; rfl
      have hel : e < s.length := by
        rcases Nat.lt_or_ge e s.length with q | q
        · exact q
        · rw [List.drop_of_length_le q] at ht; cases ht
      have hll : l.length = s.length - (e + 1) := by rw [← hcl, List.length_drop]
      rw [wh_one]
      cases hc : isE c with
      | false =>
        have hx : expo (c :: l) = (0, 0) := by
          unfold expo
          have : ¬ (c = 101 ∨ c = 69) := by
            intro h
            rcases h with rfl | rfl <;> cases hc
          simp only [if_neg this]
        simp only [Bool.false_eq_true, if_false, show ¬ (((0 : Nat) : Int) > 0) by omega, bindO_ok, unc_cons, asI_int, un0_nil]
        exact none_case _ hx
      | true =>
        have hc' : c = 101 ∨ c = 69 := by simpa [isE] using hc
        have hsl := sgn_le l
        have hsl1 : sgn l ≤ 1 := by
          cases l with
          | nil => simp [sgn]
          | cons c l => simp only [sgn]; split <;> omega
        have hsg : wh isSgn (l.take 1) = sgn l := by
          cases l with
          | nil => rfl
          | cons c l => rw [wh_one]; rfl
        simp only [if_true, show (((1 : Nat) : Int) > 0) by omega]
        simp only [wrapA1 (show e + 1 ≤ 9223372036854775807 by omega), wrapA2 (show e + 2 ≤ 9223372036854775807 by omega), min_int, uptoS_nat (Nat.min_le_left s.length (e + 2)), uptoS_nat (show e + 1 ≤ min s.length (e + 2) by omega), min_take, letV_eq, show (s.take (e + 2)).drop (e + 1) = l.take 1 by rw [← hcl]; exact take_drop_one s (e + 1) 1, run_sgn (show (l.take 1).length ≤ 1000000 by rw [List.length_take]; omega), asI_int, hsg, wrapA (show e + 1 + sgn l ≤ 9223372036854775807 by omega), uptoS_nat (show e + 1 + sgn l ≤ s.length by omega), List.take_length]
        have hd5 : s.drop (e + 1 + sgn l) = l.drop (sgn l) := by rw [← List.drop_drop, hcl]
        have hl5 : (l.drop (sgn l)).length ≤ 1000000 := by rw [List.length_drop]; omega
        simp only [hd5, run_dig hl5, asI_int]
        have hD := wh_le isDig (l.drop (sgn l))
        rw [List.length_drop] at hD
        generalize hdd : wh isDig (l.drop (sgn l)) = d at hD
        by_cases cz : d = 0
        · subst cz
          have hx : expo (c :: l) = (0, 0) := by
            simp only [expo, if_pos hc', hdd, if_true]
          simp only [show ¬ (((0 : Nat) : Int) > 0) by omega, ifB_decide, if_false, bindO_ok, unc_cons, asI_int, un0_nil]
          exact none_case _ hx
        · have cz' : ((d : Nat) : Int) > 0 := by omega
          have hx : expo (c :: l) = (1 + sgn l + d, if l.head? = some 45 then -((min (numV 0 ((l.drop (sgn l)).take d)) 1000000 : Nat) : Int) else ((min (numV 0 ((l.drop (sgn l)).take d)) 1000000 : Nat) : Int)) := by
            simp only [expo, if_pos hc', hdd, if_neg cz]
          obtain ⟨x, hN2, hat⟩ := atoi_near (by omega) hdd (by omega) k
          have hf := near_far hN2 (show k ≤ 500000 by omega)
          have hsub : (s.take (e + 1 + sgn l + d)).drop (e + 1) = l.take (sgn l + d) := by
            have := take_drop_one s (e + 1) (sgn l + d)
            rw [hcl, ← Nat.add_assoc] at this
            exact this
          simp only [ifB_decide, if_pos cz', wrapA (show e + 1 + sgn l + d ≤ 9223372036854775807 by omega), uptoS_nat (show e + 1 + sgn l + d ≤ s.length by omega), uptoS_nat (show e + 1 ≤ e + 1 + sgn l + d by omega), hsub, call_trim, asS_str, hat, letV_eq, bindO_ok, unc_cons, asI_int, un0_nil]
          have hl := last_part (all := n + k) (e := ((e + 1 + sgn l + d : Nat) : Int)) (St.mk 0 0 Tr.leaf) _ hf
          simp only [ifB_decide, letV_eq] at hl
          rw [hl, hx]
          have e1 : e + (1 + sgn l + d) = e + 1 + sgn l + d := by omega
          simp only [e1]
          unfold farP
          simp only [Bool.or_eq_true, decide_eq_true_eq]
          by_cases c5 : l.head? = some 45
          · simp only [c5, if_true]
            split <;> rfl
          · simp only [c5, if_false]
            split <;> rfl
  · simp only [cd, decide_false, Bool.not_false, ifB_true, if_false]
    rfl
end Go.Proofs.YtkodpnfdmgbfnaaGreatDoor.Vm
/- Tokens: texts, signs and the rest, by the program; a text's tokens. -/
set_option maxRecDepth 100000
set_option linter.unusedSimpArgs false
namespace Go.Proofs.YtkodpnfdmgbfnaaGreatDoor.Vm
open Go Go.VM Go.Proofs Go.Lex

theorem esc_ok (c : UInt8) : decide (idxB [110, 116, 92, 34] c ≥ 0) = isEsc c := by
  have := all_bytes (p := fun c => decide (idxB [110, 116, 92, 34] c ≥ 0) == isEsc c) (by decide +kernel) c
  exact eq_of_beq this
theorem find_cons (n : Nat) (b : UInt8) (l : List UInt8) : findByte n (b :: l) = if b.toNat = n then some 0 else (findByte n l).map (· + 1) := by
  show (match b.toNat.beq n with | true => some 0 | false => match findByte n l with | some i => some (i + 1) | none => none) = _
  cases h : b.toNat.beq n with
  | true => rw [if_pos (Nat.eq_of_beq_eq_true h)]
  | false =>
    rw [if_neg (Nat.ne_of_beq_eq_false h)]
    cases findByte n l <;> rfl
theorem badT_find : ∀ (r : List UInt8), (∀ b ∈ r, b ≠ 10) → badT r = match findByte 34 r with | some j => j + 1 | none => r.length
  | [], _ => rfl
  | c :: r, h => by
    have ih := badT_find r fun b hb => h b (List.mem_cons_of_mem _ hb)
    rw [find_cons]
    simp only [badT, if_neg (h c (by simp))]
    by_cases hc : c = 34
    · subst hc; rfl
    · have : ¬ c.toNat = 34 := fun e => hc (UInt8.toNat_inj.1 e)
      rw [if_neg hc, if_neg this, ih]
      cases findByte 34 r <;> rfl
theorem badT_line : ∀ (r : List UInt8), badT r = badT (r.takeWhile fun b => b != 10)
  | [] => rfl
  | c :: r => by
    by_cases h : c = 10
    · subst h; rfl
    · have e : (c != 10) = true := by simpa using h
      rw [List.takeWhile_cons, if_pos e]
      simp only [badT, if_neg h]
      rw [badT_line r]
theorem txt_line : ∀ (l : List UInt8), txt l = txt (l.takeWhile fun b => b != 10)
  | [] => rfl
  | [c] => by
    by_cases h : c = 10
    · subst h; rfl
    · have e : (c != 10) = true := by simpa using h
      rw [List.takeWhile_cons, if_pos e]; rfl
  | c :: d :: l => by
    have h1 := txt_line l
    have h2 := txt_line (d :: l)
    have h3 := badT_line (d :: l)
    by_cases h : c = 10
    · subst h; rfl
    have e : (c != 10) = true := by simpa using h
    rw [List.takeWhile_cons, if_pos e]
    by_cases hq : c = 34
    · subst hq
      cases hr : (d :: l).takeWhile fun b => b != 10 with
      | nil => rfl
      | cons a r => rfl
    by_cases hb : c = 92
    · subst hb
      by_cases hd : d = 10
      · subst hd; rfl
      · have ed : (d != 10) = true := by simpa using hd
        rw [List.takeWhile_cons, if_pos ed] at h2 h3 ⊢
        simp only [txt, h, hq, if_false, if_true]
        split
        · rw [h1]
        · rw [h3]
    · cases hr : (d :: l).takeWhile fun b => b != 10 with
      | nil =>
        rw [hr] at h2
        simp only [txt, if_neg h, if_neg hq, if_neg hb, h2]
      | cons a r =>
        rw [hr] at h2
        simp only [txt, if_neg h, if_neg hq, if_neg hb, h2]
theorem text_loop (line : List UInt8) (hno : ∀ b ∈ line, b ≠ 10) (hs : line.length ≤ 1000000) (st : St) : ∀ (r : List UInt8) (i : Nat), line.drop i = r → i ≤ line.length →
    (loopO (g34_L1 line) ([.int .u8 0, .int .i64 0, .int .i64 (i : Int)], st) = some (1, [.int .u8 ((txt r).1 : Int), .int .i64 ((i + (txt r).2 : Nat) : Int)], st)) ∨
    (loopO (g34_L1 line) ([.int .u8 0, .int .i64 0, .int .i64 (i : Int)], st) = some (0, [.int .u8 0, .int .i64 0], st) ∧ txt r = (9, r.length))
  | [], i, hd, hi => by
    have := List.drop_eq_nil_iff.1 hd
    have q : ¬ (i : Int) < (line.length : Int) := by omega
    refine .inr ⟨loopO_inr ?_, rfl⟩
    simp only [g34_L1, unc_cons, asI_int, un0_nil, ifB_decide, if_neg q]
  | [c], i, hd, hi => by
    obtain ⟨hg, hr, hlt⟩ := drop_cons hd
    have hnil := List.drop_eq_nil_iff.1 hr
    have q : (i : Int) < (line.length : Int) := by omega
    have hc : line[i] = c := getElem_of hlt hg
    have h10 : c ≠ 10 := hno c (List.mem_of_getElem? hg)
    by_cases c1 : c = 34
    · subst c1
      refine .inl (loopO_inr ?_)
      have z : ((UInt8.toNat (34 : UInt8) : Nat) : Int) = 34 := rfl
      simp only [g34_L1, unc_cons, asI_int, un0_nil, ifB_decide, if_pos q, idxStr_nat hlt, hc, z, ifB_beq, if_true, letV_eq, wrapA1 (show i + 1 ≤ 9223372036854775807 by omega), bindO_ok, onSum_inr]
      rfl
    · have z1 : ¬ ((c.toNat : Nat) : Int) = 34 := byte_ne (d := 34) c1
      by_cases c2 : c = 92
      · subst c2
        have z2 : ((UInt8.toNat (92 : UInt8) : Nat) : Int) = 92 := rfl
        have z3 : ¬ ((92 : Int) = 34) := by omega
        have q2 : ¬ ((i + 1 : Nat) : Int) < (line.length : Int) := by omega
        have hix : idxB [92] 34 = -1 := rfl
        have cix := fun {β : Type} (st : St) (K : Kv β) => call_index [92] 34 st K
        have z34 : ((UInt8.toNat (34 : UInt8) : Nat) : Int) = 34 := rfl
        simp only [z34] at cix
        have el : line.length = i + 1 := by omega
        have e1 : txt [92] = (9, 1) := rfl
        refine .inl (loopO_inr ?_)
        simp only [g34_L1, unc_cons, asI_int, un0_nil, ifB_decide, if_pos q, idxStr_nat hlt, hc, z2, ifB_beq, if_neg z3, if_true, letV_eq, wrapA1 (show i + 1 ≤ 9223372036854775807 by omega), if_neg q2, bindO_ok, asB_bool, ifB_false, uptoS_nat (show i ≤ line.length by omega), List.take_length, hd, cix, hix, show ¬ ((-1 : Int) ≥ 0) by omega, if_false, onSum_inr, e1]
        rw [el]; rfl
      · have z2 : ¬ ((c.toNat : Nat) : Int) = 92 := byte_ne (d := 92) c2
        refine .inr ⟨?_, by simp only [txt, if_neg h10, if_neg c1]; rfl⟩
        have ih := text_loop line hno hs st [] (i + 1) hr (by omega)
        rw [loopO_inl (s' := ([.int .u8 0, .int .i64 0, .int .i64 ((i + 1 : Nat) : Int)], st))]
        · rcases ih with ih | ih
          · exfalso
            have q2 : ¬ ((i + 1 : Nat) : Int) < (line.length : Int) := by omega
            have e : loopO (g34_L1 line) ([.int .u8 0, .int .i64 0, .int .i64 ((i + 1 : Nat) : Int)], st) = some (0, [.int .u8 0, .int .i64 0], st) := loopO_inr (by simp only [g34_L1, unc_cons, asI_int, un0_nil, ifB_decide, if_neg q2])
            rw [e] at ih; cases ih
          · exact ih.1
        · simp only [g34_L1, unc_cons, asI_int, un0_nil, ifB_decide, if_pos q, idxStr_nat hlt, hc, ifB_beq, if_neg z1, if_neg z2, bindO_ok, onSum_inl, letV_eq, wrapA1 (show i + 1 ≤ 9223372036854775807 by omega)]
  | c :: d :: l, i, hd, hi => by
    obtain ⟨hg, hr, hlt⟩ := drop_cons hd
    obtain ⟨hg2, hr2, hlt2⟩ := drop_cons hr
    have q : (i : Int) < (line.length : Int) := by omega
    have q2 : ((i + 1 : Nat) : Int) < (line.length : Int) := by omega
    have hc : line[i] = c := getElem_of hlt hg
    have hc2 : line[i + 1] = d := getElem_of hlt2 hg2
    have h10 : c ≠ 10 := hno c (List.mem_of_getElem? hg)
    by_cases c1 : c = 34
    · subst c1
      refine .inl (loopO_inr ?_)
      have z : ((UInt8.toNat (34 : UInt8) : Nat) : Int) = 34 := rfl
      simp only [g34_L1, unc_cons, asI_int, un0_nil, ifB_decide, if_pos q, idxStr_nat hlt, hc, z, ifB_beq, if_true, letV_eq, wrapA1 (show i + 1 ≤ 9223372036854775807 by omega), bindO_ok, onSum_inr]
      rfl
    · have z1 : ¬ ((c.toNat : Nat) : Int) = 34 := byte_ne (d := 34) c1
      by_cases c2 : c = 92
      · subst c2
        have z2 : ((UInt8.toNat (92 : UInt8) : Nat) : Int) = 92 := rfl
        have z3 : ¬ ((92 : Int) = 34) := by omega
        have hesc := esc_ok d
        cases he : isEsc d with
        | true =>
          rw [he] at hesc
          have hesc' := of_decide_eq_true hesc
          have ih := text_loop line hno hs st l (i + 2) hr2 (by omega)
          have step : loopO (g34_L1 line) ([.int .u8 0, .int .i64 0, .int .i64 (i : Int)], st) = loopO (g34_L1 line) ([.int .u8 0, .int .i64 0, .int .i64 ((i + 2 : Nat) : Int)], st) := by
            refine loopO_inl ?_
            simp only [g34_L1, unc_cons, asI_int, un0_nil, ifB_decide, if_pos q, idxStr_nat hlt, hc, z2, ifB_beq, if_neg z3, if_true, letV_eq, wrapA1 (show i + 1 ≤ 9223372036854775807 by omega), if_pos q2, idxStr_nat hlt2, hc2, call_index, bindO_ok, asB_bool, if_pos hesc', onSum_inl, wrapA1 (show i + 1 + 1 ≤ 9223372036854775807 by omega)]
          have e1 : txt (92 :: d :: l) = ((txt l).1, (txt l).2 + 2) := by
            simp only [txt, he, if_true]; rfl
          rw [step, e1]
          rcases ih with ih | ⟨ih, e2⟩
          · refine .inl (ih.trans ?_)
            show some (_, [_, AV.int .i64 ((i + 2 + (txt l).2 : Nat) : Int)], st) = _
            rw [show i + 2 + (txt l).2 = i + ((txt l).2 + 2) by omega]
          · exact .inr ⟨ih, by rw [e2]; rfl⟩
        | false =>
          rw [he] at hesc
          have hesc' := of_decide_eq_false hesc
          have e1 : txt (92 :: d :: l) = (9, badT (d :: l) + 1) := by
            simp only [txt, he]; rfl
          have hb := badT_find (d :: l) fun b hb => hno b (by
            have : b ∈ line.drop (i + 1) := by rw [hr]; exact hb
            exact List.mem_of_mem_drop this)
          have cix := fun {β : Type} (st : St) (K : Kv β) => call_index (92 :: d :: l) 34 st K
          have z34 : ((UInt8.toNat (34 : UInt8) : Nat) : Int) = 34 := rfl
          simp only [z34] at cix
          have hl : line.length = i + 2 + l.length := by
            have := congrArg List.length hd
            rw [List.length_drop] at this
            simp at this; omega
          rw [e1]
          refine .inl (loopO_inr ?_)
          have hix : idxB (92 :: d :: l) 34 = match findByte 34 (d :: l) with | some j => ((j + 1 : Nat) : Int) | none => -1 := by
            unfold idxB
            rw [show (UInt8.toNat (34 : UInt8)) = 34 from rfl, find_cons, if_neg (by decide)]
            cases findByte 34 (d :: l) <;> rfl
          simp only [g34_L1, unc_cons, asI_int, un0_nil, ifB_decide, if_pos q, idxStr_nat hlt, hc, z2, ifB_beq, if_neg z3, if_true, letV_eq, wrapA1 (show i + 1 ≤ 9223372036854775807 by omega), if_pos q2, idxStr_nat hlt2, hc2, call_index, bindO_ok, asB_bool, if_neg hesc', uptoS_nat (show i ≤ line.length by omega), List.take_length, hd, cix, hix]
          rw [hb]
          cases hf : findByte 34 (d :: l) with
          | none =>
            simp only [show ¬ ((-1 : Int) ≥ 0) by omega, if_false, bindO_ok, onSum_inr]
            rw [show line.length = i + ((d :: l).length + 1) by simp; omega]; rfl
          | some j =>
            have hj : j + 1 ≤ (d :: l).length := by
              have h1 := badT_le (d :: l)
              rw [hb, hf] at h1
              exact h1
            simp only [List.length_cons] at hj
            simp only [show (((j + 1 : Nat) : Int) ≥ 0) by omega, if_true, wrapA (show i + (j + 1) ≤ 9223372036854775807 by omega), wrapA1 (show i + (j + 1) + 1 ≤ 9223372036854775807 by omega), bindO_ok, onSum_inr]
            rfl
      · have z2 : ¬ ((c.toNat : Nat) : Int) = 92 := byte_ne (d := 92) c2
        have ih := text_loop line hno hs st (d :: l) (i + 1) hr (by omega)
        have step : loopO (g34_L1 line) ([.int .u8 0, .int .i64 0, .int .i64 (i : Int)], st) = loopO (g34_L1 line) ([.int .u8 0, .int .i64 0, .int .i64 ((i + 1 : Nat) : Int)], st) := by
          refine loopO_inl ?_
          simp only [g34_L1, unc_cons, asI_int, un0_nil, ifB_decide, if_pos q, idxStr_nat hlt, hc, ifB_beq, if_neg z1, if_neg z2, bindO_ok, onSum_inl, letV_eq, wrapA1 (show i + 1 ≤ 9223372036854775807 by omega)]
        have e1 : txt (c :: d :: l) = ((txt (d :: l)).1, (txt (d :: l)).2 + 1) := by
          simp only [txt, if_neg h10, if_neg c1, if_neg c2]
        rw [step, e1]
        rcases ih with ih | ⟨ih, e2⟩
        · refine .inl (ih.trans ?_)
          show some (_, [_, AV.int .i64 ((i + 1 + (txt (d :: l)).2 : Nat) : Int)], st) = _
          rw [show i + 1 + (txt (d :: l)).2 = i + ((txt (d :: l)).2 + 1) by omega]
        · exact .inr ⟨ih, by rw [e2]; rfl⟩
theorem find_line : ∀ (s : List UInt8), (match findByte 10 s with | some k => s.take k | none => s) = s.takeWhile fun b => b != 10
  | [] => rfl
  | c :: l => by
    have ih := find_line l
    rw [find_cons, List.takeWhile_cons]
    by_cases h : c = 10
    · subst h; rfl
    · have e : (c != 10) = true := by simpa using h
      have : ¬ c.toNat = 10 := fun k => h (UInt8.toNat_inj.1 k)
      rw [if_neg this, if_pos e, ← ih]
      cases findByte 10 l <;> rfl
theorem find_lt : ∀ (s : List UInt8) (n k : Nat), findByte n s = some k → k < s.length
  | [], _, _, h => by cases h
  | c :: l, n, k, h => by
    rw [find_cons] at h
    split at h
    · cases h; simp
    · obtain ⟨m, hm, rfl⟩ := Option.map_eq_some_iff.1 h
      have := find_lt l n m hm
      simp; omega
theorem text_ok {c : UInt8} {l : List UInt8} (hs : (c :: l).length ≤ 1000000) : (orc vE).bare 34 [.str (c :: l)] = some (if c = 34 then .tup [.int .u8 ((txt l).1 : Int), .int .i64 (((txt l).2 + 1 : Nat) : Int)] else .tup [.int .u8 0, .int .i64 0]) := by
  refine bare_of rfl ((g34_eq _).trans ?_)
  have i0 : ∀ {β : Type} (K : UInt8 → Option β), idxStr (c :: l) 0 K = K c := fun K => idxStr_nat (k := 0) (by simp) K
  by_cases h : c = 34
  · subst h
    have z : (((UInt8.toNat (34 : UInt8) : Nat) : Int) != 34) = false := rfl
    have cix := fun {β : Type} (st : St) (K : Kv β) => call_index (34 :: l) 10 st K
    have z10 : ((UInt8.toNat (10 : UInt8) : Nat) : Int) = 10 := rfl
    simp only [z10] at cix
    have hline := find_line (34 :: l)
    have hw : (34 :: l).takeWhile (fun b => b != 10) = 34 :: l.takeWhile (fun b => b != 10) := by rw [List.takeWhile_cons]; rfl
    rw [hw] at hline
    have hno : ∀ b ∈ (34 :: l.takeWhile (fun b => b != 10) : List UInt8), b ≠ 10 := by
      intro b hb
      rcases List.mem_cons.1 hb with rfl | hb
      · decide
      · have := List.all_eq_true.1 (takeWhile_all (fun b => b != 10) l) b hb
        simpa using this
    have hll : (34 :: l.takeWhile (fun b => b != 10) : List UInt8).length ≤ 1000000 := by
      have := (List.takeWhile_sublist (p := fun b => b != 10) (l := l)).length_le
      simp at hs ⊢; omega
    have hlp := text_loop (34 :: l.takeWhile (fun b => b != 10)) hno hll (St.mk 0 0 Tr.leaf) (l.takeWhile fun b => b != 10) 1 rfl (by simp)
    rw [← txt_line l] at hlp
    have first : ∀ (K : Car → Option AV), (bindO (ifB (decide (idxB (34 :: l) 10 ≥ 0)) (uptoS (idxB (34 :: l) 10) (34 :: l : List UInt8).length fun k6 => letV (List.drop 0 (List.take k6 (34 :: l))) fun l7 => some (([AV.str l7], St.mk 0 0 Tr.leaf) : Car)) (some ([AV.str (34 :: l)], St.mk 0 0 Tr.leaf))) K) = K ([AV.str (34 :: l.takeWhile fun b => b != 10)], St.mk 0 0 Tr.leaf) := by
      intro K
      unfold idxB
      rw [show UInt8.toNat (10 : UInt8) = 10 from rfl]
      cases hf : findByte 10 (34 :: l) with
      | none =>
        rw [hf] at hline
        have hline : (34 :: l) = 34 :: l.takeWhile (fun b => b != 10) := hline
        simp only [ifB_decide, show ¬ ((-1 : Int) ≥ 0) by omega, if_false, bindO_ok]
        rw [← hline]
      | some k =>
        rw [hf] at hline
        have hline : (34 :: l).take k = 34 :: l.takeWhile (fun b => b != 10) := hline
        have hk := find_lt _ _ _ hf
        simp only [ifB_decide, show ((k : Int) ≥ 0) by omega, if_true, uptoS_nat (show k ≤ (34 :: l : List UInt8).length by omega), List.drop_zero, letV_eq, hline, bindO_ok]
    simp only [g34, asS_str, i0, z, ifB_false, cix, asI_int]
    rw [first]
    simp only [unc_cons, asS_str, un0_nil, if_true]
    rcases hlp with hlp | ⟨hlp, e2⟩
    · have hlp : loopO (g34_L1 (34 :: l.takeWhile fun b => b != 10)) ([.int .u8 0, .int .i64 0, .int .i64 1], St.mk 0 0 Tr.leaf) = _ := hlp
      rw [hlp]
      simp only [bindO_ok, unc_cons, asI_int, un0_nil, sel2_one]
      rw [Nat.add_comm 1]
    · have hlp : loopO (g34_L1 (34 :: l.takeWhile fun b => b != 10)) ([.int .u8 0, .int .i64 0, .int .i64 1], St.mk 0 0 Tr.leaf) = _ := hlp
      rw [hlp, e2]
      simp only [bindO_ok, unc_cons, asI_int, un0_nil, sel2_zero]
      rfl
  · have z : ((c.toNat : Int) != 34) = true := by
      have h' : ¬ ((c.toNat : Nat) : Int) = 34 := byte_ne (d := 34) h
      rw [bne, beq_false_of_ne h']; rfl
    simp only [g34, asS_str, i0, z, ifB_true, if_neg h]
theorem sign_ok {c : UInt8} {l : List UInt8} : (orc vE).bare 35 [.str (c :: l)] = some (if twos.contains ((c :: l).take 2) then .tup [.int .u8 8, .int .i64 2] else .tup [.int .u8 8, .int .i64 (if isOne c then 1 else 0)]) := by
  refine bare_of rfl ((g35_eq _).trans ?_)
  have h1 : (c :: l).take 1 = [c] := rfl
  have h2 : wh isOne [c] = if isOne c then 1 else 0 := by rw [wh_cons]; rfl
  have tail : ∀ (st : St), (chk (Nat.ble 1 (c :: l).length) (letV (List.drop 0 (List.take 1 (c :: l))) fun l50 => callS (orc vE) 49 [AV.str l50, AV.str [40, 41, 91, 93, 44, 59, 124, 61, 60, 62, 43, 45, 42, 47, 94, 64]] st fun v51 _x _x_1 => asI .i64 v51 fun n54 => letV (if n54 < 1 then n54 else 1) fun n55 => some (AV.tup [AV.int .u8 8, AV.int .i64 n55]))) = some (.tup [.int .u8 8, .int .i64 (if isOne c then 1 else 0)]) := by
    intro st
    simp only [ble_of (show 1 ≤ (c :: l).length by simp), chk_true, letV_eq, h1, List.drop_zero, run_one (show [c].length ≤ 1000000 by simp), asI_int, h2]
    cases isOne c <;> rfl
  by_cases hl : ((c :: l).length : Int) > 1
  · have hl2 : 2 ≤ (c :: l).length := by omega
    simp only [g35, asS_str, ifB_decide, if_pos hl, ble_of hl2, chk_true, List.drop_zero, letV_eq]
    generalize (c :: l).take 2 = w
    cases hw : twos.contains w with
    | true =>
      have hm : w ∈ twos := List.contains_iff_mem.1 hw
      simp only [twos, List.mem_cons, List.not_mem_nil, or_false] at hm
      rcases hm with rfl | rfl | rfl | rfl | rfl | rfl | rfl | rfl | rfl | rfl | rfl <;> rfl
    | false =>
      simp only [twos, List.contains_cons, List.contains_nil, Bool.or_eq_false_iff] at hw
      obtain ⟨w1, w2, w3, w4, w5, w6, w7, w8, w9, w10, w11, _⟩ := hw
      simp only [w1, w2, w3, w4, w5, w6, w7, w8, w9, w10, w11, ifB_false, bindO_ok, unc_cons, asB_bool, un0_nil, onSum_inl, asI_int]
      exact tail _
  · have hl0 : l = [] := by
      cases l with
      | nil => rfl
      | cons d l => simp at hl; omega
    subst hl0
    have hw : twos.contains ([c].take 2) = false := by
      simp [twos]
    simp only [g35, asS_str, ifB_decide, if_neg hl, bindO_ok, onSum_inl, unc_cons, asI_int, un0_nil, hw]
    exact tail _
/-- A character's bytes. -/
def chN (s : List UInt8) : Nat := if szL s = 0 then 1 else szL s
theorem decode_ch {s : List UInt8} (h : s ≠ []) : ∃ r n : Int, libDecode [.str s] = .ok (.tup [.int .i32 r, .int .i64 n]) ∧ ((szL s = 0 ∧ r = 65533 ∧ n = 1) ∨ (szL s ≠ 0 ∧ n = szL s ∧ (szL s = 1 → r ≠ 65533))) := by
  cases s with
  | nil => exact absurd rfl h
  | cons c l =>
    have e : libDecode [.str (c :: l)] = .ok (.tup [.int .i32 ((Lib.decodeL (c :: l)).1 : Int), .int .i64 ((Lib.decodeL (c :: l)).2 : Int)]) := by
      rw [Lib.decodeL_N]; rfl
    refine ⟨_, _, e, ?_⟩
    rcases szL_decode (c :: l) with ⟨h1, h2⟩ | ⟨h1, h2, h3⟩ | ⟨h1, h2⟩
    · exact .inl ⟨h1, by rw [h2]; rfl, by rw [h2]; rfl⟩
    · refine .inr ⟨by omega, by rw [h3, h1], fun _ => ?_⟩
      rw [h3]
      show (((c :: l).getD 0 0).toNat : Int) ≠ 65533
      omega
    · exact .inr ⟨by omega, by rw [h2], fun h => by omega⟩
theorem rune_ok {s : List UInt8} (h : s ≠ []) : ∃ r : Int, (orc vE).bare 55 [.str s] = some (.tup [.int .i64 r, .int .i64 (chN s : Int)]) := by
  obtain ⟨r, n, e, hc⟩ := decode_ch h
  have hne : (s == []) = false := by simpa using h
  rcases hc with ⟨h1, rfl, rfl⟩ | ⟨h1, rfl, h2⟩
  · refine ⟨-1, bare_of rfl ((g55_eq _).trans ?_)⟩
    simp only [g55, asS_str, hne, ifB_false, planS_lib e, unT_tup, nthS_zero, nthS_one, asI_int, ifB_beq, if_true, bindO_ok, unc_cons, asB_bool, un0_nil, ifB_decide, show ((1 : Int) < 2) by omega, chN, if_pos h1]
    rfl
  · refine ⟨IntKind.wrap .i64 r, bare_of rfl ((g55_eq _).trans ?_)⟩
    by_cases c1 : r = 65533
    · have : ¬ szL s = 1 := fun k => h2 k c1
      have : ¬ ((szL s : Int) < 2) := by omega
      simp only [g55, asS_str, hne, ifB_false, planS_lib e, unT_tup, nthS_zero, nthS_one, asI_int, ifB_beq, if_pos c1, bindO_ok, unc_cons, asB_bool, un0_nil, ifB_decide, if_neg this, letV_eq, chN, if_neg h1]
    · simp only [g55, asS_str, hne, ifB_false, planS_lib e, unT_tup, nthS_zero, nthS_one, asI_int, ifB_beq, if_neg c1, bindO_ok, unc_cons, asB_bool, un0_nil, letV_eq, chN, if_neg h1]
theorem bad_ok {s : List UInt8} (h : s ≠ []) : (orc vE).bare 36 [.str s] = some (.tup [.int .u8 9, .int .i64 (chN s : Int)]) := by
  refine bare_of rfl ((g36_eq _).trans ?_)
  obtain ⟨r, e⟩ := rune_ok h
  have e' : ∀ {β : Type} (st : St) (K : Kv β), callS (orc vE) 55 [.str s] st K = K (.tup [.int .i64 r, .int .i64 (chN s : Int)]) st q0 := fun st K => callS_bare st K rfl rfl rfl e
  simp only [g36, asS_str, e', unT_tup, nthS_zero, nthS_one, asI_int]
end Go.Proofs.YtkodpnfdmgbfnaaGreatDoor.Vm
