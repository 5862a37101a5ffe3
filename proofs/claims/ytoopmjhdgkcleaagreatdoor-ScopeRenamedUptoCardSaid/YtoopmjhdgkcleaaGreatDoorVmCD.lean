/-
  (A part of the proof: Env, F, ScopeA, ScopeB, ScopeGen, ScopeH, ScopeI, ScopeJ, ScopeK, ScopeL, ScopeM, ScopeN, ScopeP.)
-/
import Derived.Test.YtoopmjhdgkcleaaGreatDoorVmBE
import Derived.Test.YtoopmjhdgkcleaaGreatDoorVmCB
import Derived.Test.YtoopmjhdgkcleaaGreatDoorVmCC
import Derived.Test.YtoopmjhdgkcleaaGreatDoorVmBI
import Derived.Test.YtoopmjhdgkcleaaGreatDoorVmBG
import Derived.Test.YtoopmjhdgkcleaaGreatDoorVmBA
import Derived.Test.YtoopmjhdgkcleaaGreatDoorVmAA
import Derived.Test.YtoopmjhdgkcleaaGreatDoorVmBH
import Derived.Test.YtoopmjhdgkcleaaGreatDoorRows
import Derived.KernelRfl
set_option maxRecDepth 1000000
set_option maxHeartbeats 0
namespace Go.Proofs.YtoopmjhdgkcleaaGreatDoor.Vm
open Go Go.VM Go.Proofs
noncomputable def vT : TT := (.node none (.node (some ⟨.func, 1, 8, [.nilfn], false, false⟩) (.node (some ⟨(.int .i64), 1, 8, [(.int .i64 (0))], false, false⟩) (.node (some ⟨(.struct [(0, 2), (1, 3), (2, 4), (3, 6)]), 4, 24, [(.int .i64 (0)), (.int .i64 (0)), (.bool false), (.int .u8 (0))], true, true⟩) (.node (some ⟨(.ptr 250), 1, 8, [.nilp], false, false⟩) (.node (some ⟨(.struct [(0, 3), (1, 3)]), 2, 16, [(.int .i64 (0)), (.int .i64 (0))], true, true⟩) (.node (some ⟨(.struct [(0, 5), (1, 32), (3, 4), (4, 9), (5, 60), (6, 61)]), 7, 96, [(.int .u8 (0)), (.int .i64 (0)), (.int .i64 (0)), (.bool false), (.str []), .nils, .nils], true, true⟩) (.node (some ⟨(.slice 128), 1, 24, [.nils], false, false⟩) (.node (some ⟨(.int .u8), 1, 1, [(.int .u8 (0))], false, false⟩) .leaf .leaf) (.node none .leaf .leaf)) (.node (some ⟨(.ptr 208), 1, 8, [.nilp], false, false⟩) (.node none .leaf .leaf) (.node none .leaf .leaf))) (.node (some ⟨(.ptr 97), 1, 8, [.nilp], false, false⟩) (.node (some ⟨.func, 1, 8, [.nilfn], false, false⟩) (.node none .leaf .leaf) (.node none .leaf .leaf)) (.node (some ⟨(.struct [(0, 221), (1, 221), (2, 221)]), 3, 6, [(.int .u16 (0)), (.int .u16 (0)), (.int .u16 (0))], true, true⟩) (.node none .leaf .leaf) (.node none .leaf .leaf)))) (.node (some ⟨(.int .i64), 1, 8, [(.int .i64 (0))], false, false⟩) (.node (some ⟨(.struct [(0, 5), (1, 9)]), 2, 24, [(.int .u8 (0)), (.str [])], true, true⟩) (.node (some ⟨.func, 1, 8, [.nilfn], false, false⟩) (.node none .leaf .leaf) (.node none .leaf .leaf)) (.node (some ⟨(.struct [(0, 9), (1, 9), (2, 149)]), 3, 48, [(.str []), (.str []), .nili], true, false⟩) (.node none .leaf .leaf) (.node none .leaf .leaf))) (.node (some ⟨(.ptr 113), 1, 8, [.nilp], false, false⟩) (.node (some ⟨(.struct [(0, 173), (1, 93)]), 2, 32, [.nilp, .nils], true, true⟩) (.node none .leaf .leaf) (.node none .leaf .leaf)) (.node none (.node none .leaf .leaf) (.node none .leaf .leaf))))) (.node (some ⟨.func, 1, 8, [.nilfn], false, false⟩) (.node (some ⟨(.slice 75), 1, 24, [.nils], false, false⟩) (.node none (.node (some ⟨.func, 1, 8, [.nilfn], false, false⟩) (.node none .leaf .leaf) (.node none .leaf .leaf)) (.node (some ⟨(.slice 201), 1, 24, [.nils], false, false⟩) (.node none .leaf .leaf) (.node none .leaf .leaf))) (.node (some ⟨(.map 9 3), 1, 8, [.nilm], false, false⟩) (.node (some ⟨.func, 1, 8, [.nilfn], false, false⟩) (.node none .leaf .leaf) (.node none .leaf .leaf)) (.node (some ⟨(.struct [(0, 9)]), 1, 16, [(.str [])], true, true⟩) (.node none .leaf .leaf) (.node none .leaf .leaf)))) (.node (some ⟨.func, 1, 8, [.nilfn], false, false⟩) (.node (some ⟨(.struct [(0, 82), (4, 3)]), 5, 64, [(.int .u8 (0)), (.int .u8 (0)), (.str []), .nils, (.int .i64 (0))], true, true⟩) (.node (some ⟨.func, 1, 8, [.nilfn], false, false⟩) (.node none .leaf .leaf) (.node none .leaf .leaf)) (.node (some ⟨.func, 1, 8, [.nilfn], false, false⟩) (.node none .leaf .leaf) (.node none .leaf .leaf))) (.node (some ⟨.func, 1, 8, [.nilfn], false, false⟩) (.node (some ⟨.func, 1, 8, [.nilfn], false, false⟩) (.node none .leaf .leaf) (.node none .leaf .leaf)) (.node (some ⟨(.arr 32 5), 32, 32, [(.int .u8 (0)), (.int .u8 (0)), (.int .u8 (0)), (.int .u8 (0)), (.int .u8 (0)), (.int .u8 (0)), (.int .u8 (0)), (.int .u8 (0)), (.int .u8 (0)), (.int .u8 (0)), (.int .u8 (0)), (.int .u8 (0)), (.int .u8 (0)), (.int .u8 (0)), (.int .u8 (0)), (.int .u8 (0)), (.int .u8 (0)), (.int .u8 (0)), (.int .u8 (0)), (.int .u8 (0)), (.int .u8 (0)), (.int .u8 (0)), (.int .u8 (0)), (.int .u8 (0)), (.int .u8 (0)), (.int .u8 (0)), (.int .u8 (0)), (.int .u8 (0)), (.int .u8 (0)), (.int .u8 (0)), (.int .u8 (0)), (.int .u8 (0))], true, false⟩) (.node none .leaf .leaf) (.node none .leaf .leaf)))))) (.node (some ⟨.str, 1, 16, [(.str [])], false, false⟩) (.node (some ⟨(.struct [(0, 17)]), 1, 8, [.nilp], true, false⟩) (.node (some ⟨(.struct [(0, 9), (1, 32)]), 3, 32, [(.str []), (.int .i64 (0)), (.int .i64 (0))], true, true⟩) (.node (some ⟨(.ptr 69), 1, 8, [.nilp], false, false⟩) (.node (some ⟨.func, 1, 8, [.nilfn], false, false⟩) (.node (some ⟨(.int .i32), 1, 4, [(.int .i32 (0))], false, false⟩) .leaf .leaf) (.node none .leaf .leaf)) (.node (some ⟨.func, 1, 8, [.nilfn], false, false⟩) (.node none .leaf .leaf) (.node none .leaf .leaf))) (.node (some ⟨.func, 1, 8, [.nilfn], false, false⟩) (.node (some ⟨(.arr 256 5), 256, 256, [(.int .u8 (0)), (.int .u8 (0)), (.int .u8 (0)), (.int .u8 (0)), (.int .u8 (0)), (.int .u8 (0)), (.int .u8 (0)), (.int .u8 (0)), (.int .u8 (0)), (.int .u8 (0)), (.int .u8 (0)), (.int .u8 (0)), (.int .u8 (0)), (.int .u8 (0)), (.int .u8 (0)), (.int .u8 (0)), (.int .u8 (0)), (.int .u8 (0)), (.int .u8 (0)), (.int .u8 (0)), (.int .u8 (0)), (.int .u8 (0)), (.int .u8 (0)), (.int .u8 (0)), (.int .u8 (0)), (.int .u8 (0)), (.int .u8 (0)), (.int .u8 (0)), (.int .u8 (0)), (.int .u8 (0)), (.int .u8 (0)), (.int .u8 (0)), (.int .u8 (0)), (.int .u8 (0)), (.int .u8 (0)), (.int .u8 (0)), (.int .u8 (0)), (.int .u8 (0)), (.int .u8 (0)), (.int .u8 (0)), (.int .u8 (0)), (.int .u8 (0)), (.int .u8 (0)), (.int .u8 (0)), (.int .u8 (0)), (.int .u8 (0)), (.int .u8 (0)), (.int .u8 (0)), (.int .u8 (0)), (.int .u8 (0)), (.int .u8 (0)), (.int .u8 (0)), (.int .u8 (0)), (.int .u8 (0)), (.int .u8 (0)), (.int .u8 (0)), (.int .u8 (0)), (.int .u8 (0)), (.int .u8 (0)), (.int .u8 (0)), (.int .u8 (0)), (.int .u8 (0)), (.int .u8 (0)), (.int .u8 (0)), (.int .u8 (0)), (.int .u8 (0)), (.int .u8 (0)), (.int .u8 (0)), (.int .u8 (0)), (.int .u8 (0)), (.int .u8 (0)), (.int .u8 (0)), (.int .u8 (0)), (.int .u8 (0)), (.int .u8 (0)), (.int .u8 (0)), (.int .u8 (0)), (.int .u8 (0)), (.int .u8 (0)), (.int .u8 (0)), (.int .u8 (0)), (.int .u8 (0)), (.int .u8 (0)), (.int .u8 (0)), (.int .u8 (0)), (.int .u8 (0)), (.int .u8 (0)), (.int .u8 (0)), (.int .u8 (0)), (.int .u8 (0)), (.int .u8 (0)), (.int .u8 (0)), (.int .u8 (0)), (.int .u8 (0)), (.int .u8 (0)), (.int .u8 (0)), (.int .u8 (0)), (.int .u8 (0)), (.int .u8 (0)), (.int .u8 (0)), (.int .u8 (0)), (.int .u8 (0)), (.int .u8 (0)), (.int .u8 (0)), (.int .u8 (0)), (.int .u8 (0)), (.int .u8 (0)), (.int .u8 (0)), (.int .u8 (0)), (.int .u8 (0)), (.int .u8 (0)), (.int .u8 (0)), (.int .u8 (0)), (.int .u8 (0)), (.int .u8 (0)), (.int .u8 (0)), (.int .u8 (0)), (.int .u8 (0)), (.int .u8 (0)), (.int .u8 (0)), (.int .u8 (0)), (.int .u8 (0)), (.int .u8 (0)), (.int .u8 (0)), (.int .u8 (0)), (.int .u8 (0)), (.int .u8 (0)), (.int .u8 (0)), (.int .u8 (0)), (.int .u8 (0)), (.int .u8 (0)), (.int .u8 (0)), (.int .u8 (0)), (.int .u8 (0)), (.int .u8 (0)), (.int .u8 (0)), (.int .u8 (0)), (.int .u8 (0)), (.int .u8 (0)), (.int .u8 (0)), (.int .u8 (0)), (.int .u8 (0)), (.int .u8 (0)), (.int .u8 (0)), (.int .u8 (0)), (.int .u8 (0)), (.int .u8 (0)), (.int .u8 (0)), (.int .u8 (0)), (.int .u8 (0)), (.int .u8 (0)), (.int .u8 (0)), (.int .u8 (0)), (.int .u8 (0)), (.int .u8 (0)), (.int .u8 (0)), (.int .u8 (0)), (.int .u8 (0)), (.int .u8 (0)), (.int .u8 (0)), (.int .u8 (0)), (.int .u8 (0)), (.int .u8 (0)), (.int .u8 (0)), (.int .u8 (0)), (.int .u8 (0)), (.int .u8 (0)), (.int .u8 (0)), (.int .u8 (0)), (.int .u8 (0)), (.int .u8 (0)), (.int .u8 (0)), (.int .u8 (0)), (.int .u8 (0)), (.int .u8 (0)), (.int .u8 (0)), (.int .u8 (0)), (.int .u8 (0)), (.int .u8 (0)), (.int .u8 (0)), (.int .u8 (0)), (.int .u8 (0)), (.int .u8 (0)), (.int .u8 (0)), (.int .u8 (0)), (.int .u8 (0)), (.int .u8 (0)), (.int .u8 (0)), (.int .u8 (0)), (.int .u8 (0)), (.int .u8 (0)), (.int .u8 (0)), (.int .u8 (0)), (.int .u8 (0)), (.int .u8 (0)), (.int .u8 (0)), (.int .u8 (0)), (.int .u8 (0)), (.int .u8 (0)), (.int .u8 (0)), (.int .u8 (0)), (.int .u8 (0)), (.int .u8 (0)), (.int .u8 (0)), (.int .u8 (0)), (.int .u8 (0)), (.int .u8 (0)), (.int .u8 (0)), (.int .u8 (0)), (.int .u8 (0)), (.int .u8 (0)), (.int .u8 (0)), (.int .u8 (0)), (.int .u8 (0)), (.int .u8 (0)), (.int .u8 (0)), (.int .u8 (0)), (.int .u8 (0)), (.int .u8 (0)), (.int .u8 (0)), (.int .u8 (0)), (.int .u8 (0)), (.int .u8 (0)), (.int .u8 (0)), (.int .u8 (0)), (.int .u8 (0)), (.int .u8 (0)), (.int .u8 (0)), (.int .u8 (0)), (.int .u8 (0)), (.int .u8 (0)), (.int .u8 (0)), (.int .u8 (0)), (.int .u8 (0)), (.int .u8 (0)), (.int .u8 (0)), (.int .u8 (0)), (.int .u8 (0)), (.int .u8 (0)), (.int .u8 (0)), (.int .u8 (0)), (.int .u8 (0)), (.int .u8 (0)), (.int .u8 (0)), (.int .u8 (0)), (.int .u8 (0)), (.int .u8 (0)), (.int .u8 (0)), (.int .u8 (0)), (.int .u8 (0)), (.int .u8 (0)), (.int .u8 (0)), (.int .u8 (0)), (.int .u8 (0)), (.int .u8 (0)), (.int .u8 (0))], true, false⟩) (.node none .leaf .leaf) (.node none .leaf .leaf)) (.node (some ⟨.func, 1, 8, [.nilfn], false, false⟩) (.node none .leaf .leaf) (.node none .leaf .leaf)))) (.node (some ⟨.func, 1, 8, [.nilfn], false, false⟩) (.node none (.node (some ⟨.func, 1, 8, [.nilfn], false, false⟩) (.node none .leaf .leaf) (.node none .leaf .leaf)) (.node (some ⟨.func, 1, 8, [.nilfn], false, false⟩) (.node none .leaf .leaf) (.node none .leaf .leaf))) (.node (some ⟨.func, 1, 8, [.nilfn], false, false⟩) (.node (some ⟨.func, 1, 8, [.nilfn], false, false⟩) (.node none .leaf .leaf) (.node none .leaf .leaf)) (.node (some ⟨(.arr 65 5), 65, 65, [(.int .u8 (0)), (.int .u8 (0)), (.int .u8 (0)), (.int .u8 (0)), (.int .u8 (0)), (.int .u8 (0)), (.int .u8 (0)), (.int .u8 (0)), (.int .u8 (0)), (.int .u8 (0)), (.int .u8 (0)), (.int .u8 (0)), (.int .u8 (0)), (.int .u8 (0)), (.int .u8 (0)), (.int .u8 (0)), (.int .u8 (0)), (.int .u8 (0)), (.int .u8 (0)), (.int .u8 (0)), (.int .u8 (0)), (.int .u8 (0)), (.int .u8 (0)), (.int .u8 (0)), (.int .u8 (0)), (.int .u8 (0)), (.int .u8 (0)), (.int .u8 (0)), (.int .u8 (0)), (.int .u8 (0)), (.int .u8 (0)), (.int .u8 (0)), (.int .u8 (0)), (.int .u8 (0)), (.int .u8 (0)), (.int .u8 (0)), (.int .u8 (0)), (.int .u8 (0)), (.int .u8 (0)), (.int .u8 (0)), (.int .u8 (0)), (.int .u8 (0)), (.int .u8 (0)), (.int .u8 (0)), (.int .u8 (0)), (.int .u8 (0)), (.int .u8 (0)), (.int .u8 (0)), (.int .u8 (0)), (.int .u8 (0)), (.int .u8 (0)), (.int .u8 (0)), (.int .u8 (0)), (.int .u8 (0)), (.int .u8 (0)), (.int .u8 (0)), (.int .u8 (0)), (.int .u8 (0)), (.int .u8 (0)), (.int .u8 (0)), (.int .u8 (0)), (.int .u8 (0)), (.int .u8 (0)), (.int .u8 (0)), (.int .u8 (0))], true, false⟩) (.node none .leaf .leaf) (.node none .leaf .leaf))))) (.node (some ⟨(.slice 3), 1, 24, [.nils], false, false⟩) (.node (some ⟨.func, 1, 8, [.nilfn], false, false⟩) (.node (some ⟨(.struct [(0, 9), (1, 32), (3, 3)]), 4, 40, [(.str []), (.int .i64 (0)), (.int .i64 (0)), (.int .i64 (0))], true, true⟩) (.node (some ⟨(.map 5 138), 1, 8, [.nilm], false, false⟩) (.node none .leaf .leaf) (.node none .leaf .leaf)) (.node (some ⟨.func, 1, 8, [.nilfn], false, false⟩) (.node none .leaf .leaf) (.node none .leaf .leaf))) (.node (some ⟨.func, 1, 8, [.nilfn], false, false⟩) (.node (some ⟨.func, 1, 8, [.nilfn], false, false⟩) (.node none .leaf .leaf) (.node none .leaf .leaf)) (.node (some ⟨.func, 1, 8, [.nilfn], false, false⟩) (.node none .leaf .leaf) (.node none .leaf .leaf)))) (.node (some ⟨.func, 1, 8, [.nilfn], false, false⟩) (.node none (.node (some ⟨.func, 1, 8, [.nilfn], false, false⟩) (.node none .leaf .leaf) (.node none .leaf .leaf)) (.node (some ⟨(.struct [(0, 217), (1, 218), (2, 3)]), 3, 56, [.nils, .nils, (.int .i64 (0))], true, true⟩) (.node none .leaf .leaf) (.node none .leaf .leaf))) (.node none (.node (some ⟨.func, 1, 8, [.nilfn], false, false⟩) (.node none .leaf .leaf) (.node none .leaf .leaf)) (.node (some ⟨(.arr 0 16), 0, 0, [], true, false⟩) (.node none .leaf .leaf) (.node none .leaf .leaf))))))) (.node (some ⟨(.int .u8), 1, 1, [(.int .u8 (0))], false, false⟩) (.node (some ⟨.str, 1, 16, [(.str [])], false, false⟩) (.node (some ⟨(.ptr 261), 1, 8, [.nilp], false, false⟩) (.node (some ⟨(.struct [(0, 9), (1, 32), (3, 3)]), 4, 40, [(.str []), (.int .i64 (0)), (.int .i64 (0)), (.int .i64 (0))], true, true⟩) (.node (some ⟨(.struct [(0, 32), (2, 4), (3, 60), (4, 63)]), 11, 144, [(.int .i64 (0)), (.int .i64 (0)), (.bool false), .nils, (.int .u8 (0)), (.int .i64 (0)), (.int .i64 (0)), (.bool false), (.str []), .nils, .nils], true, true⟩) (.node none (.node (some ⟨.func, 1, 8, [.nilfn], false, false⟩) .leaf .leaf) (.node none .leaf .leaf)) (.node (some ⟨.func, 1, 8, [.nilfn], false, false⟩) (.node none .leaf .leaf) (.node none .leaf .leaf))) (.node (some ⟨(.struct [(0, 29), (3, 53), (4, 3), (5, 3)]), 6, 112, [.nils, .nils, .nils, .nils, (.int .i64 (0)), (.int .i64 (0))], true, true⟩) (.node (some ⟨.func, 1, 8, [.nilfn], false, false⟩) (.node none .leaf .leaf) (.node none .leaf .leaf)) (.node (some ⟨(.struct [(0, 202), (1, 202), (2, 202)]), 3, 12, [(.int .u32 (0)), (.int .u32 (0)), (.int .u32 (0))], true, true⟩) (.node none .leaf .leaf) (.node none .leaf .leaf)))) (.node (some ⟨.func, 1, 8, [.nilfn], false, false⟩) (.node (some ⟨(.struct [(0, 5), (1, 79), (3, 80)]), 4, 56, [(.int .u8 (0)), (.int .u8 (0)), (.str []), .nils], true, true⟩) (.node none (.node none .leaf .leaf) (.node none .leaf .leaf)) (.node (some ⟨.func, 1, 8, [.nilfn], false, false⟩) (.node none .leaf .leaf) (.node none .leaf .leaf))) (.node (some ⟨(.struct [(0, 108), (1, 3), (2, 3)]), 3, 40, [.nils, (.int .i64 (0)), (.int .i64 (0))], true, true⟩) (.node (some ⟨.func, 1, 8, [.nilfn], false, false⟩) (.node none .leaf .leaf) (.node none .leaf .leaf)) (.node (some ⟨.func, 1, 8, [.nilfn], false, false⟩) (.node none .leaf .leaf) (.node none .leaf .leaf))))) (.node (some ⟨(.slice 36), 1, 24, [.nils], false, false⟩) (.node (some ⟨(.struct [(0, 38), (1, 39), (2, 27)]), 3, 72, [.nils, .nils, .nils], true, true⟩) (.node (some ⟨.func, 1, 8, [.nilfn], false, false⟩) (.node (some ⟨.func, 1, 8, [.nilfn], false, false⟩) (.node none .leaf .leaf) (.node none .leaf .leaf)) (.node (some ⟨(.struct [(0, 3), (1, 3)]), 2, 16, [(.int .i64 (0)), (.int .i64 (0))], true, true⟩) (.node none .leaf .leaf) (.node none .leaf .leaf))) (.node (some ⟨(.struct [(0, 103), (1, 70)]), 2, 16, [.nilm, .nilp], true, true⟩) (.node none (.node none .leaf .leaf) (.node none .leaf .leaf)) (.node (some ⟨(.ptr 223), 1, 8, [.nilp], false, false⟩) (.node none .leaf .leaf) (.node none .leaf .leaf)))) (.node (some ⟨(.int .u64), 1, 8, [(.int .u64 (0))], false, false⟩) (.node (some ⟨.func, 1, 8, [.nilfn], false, false⟩) (.node (some ⟨.func, 1, 8, [.nilfn], false, false⟩) (.node none .leaf .leaf) (.node none .leaf .leaf)) (.node (some ⟨(.slice 223), 1, 24, [.nils], false, false⟩) (.node none .leaf .leaf) (.node none .leaf .leaf))) (.node (some ⟨.func, 1, 8, [.nilfn], false, false⟩) (.node (some ⟨(.ptr 181), 1, 8, [.nilp], false, false⟩) (.node none .leaf .leaf) (.node none .leaf .leaf)) (.node (some ⟨(.struct [(0, 17), (1, 17), (2, 17), (3, 9)]), 4, 40, [.nilp, .nilp, .nilp, (.str [])], true, false⟩) (.node none .leaf .leaf) (.node none .leaf .leaf)))))) (.node (some ⟨(.struct [(0, 9), (1, 12)]), 2, 24, [(.str []), (.int .u64 (0))], true, false⟩) (.node (some ⟨(.int .i32), 1, 4, [(.int .i32 (0))], false, false⟩) (.node (some ⟨.func, 1, 8, [.nilfn], false, false⟩) (.node (some ⟨(.struct [(0, 29)]), 3, 72, [.nils, .nils, .nils], true, true⟩) (.node (some ⟨.func, 1, 8, [.nilfn], false, false⟩) (.node (some ⟨(.struct [(0, 12), (1, 12), (2, 202), (3, 255), (4, 5), (5, 5), (6, 256), (7, 257), (8, 196), (9, 258), (10, 259)]), 11, 48, [(.int .u64 (0)), (.int .u64 (0)), (.int .u32 (0)), (.int .u8 (0)), (.int .u8 (0)), (.int .u8 (0)), (.int .u8 (0)), .nilfn, .nilp, (.int .i32 (0)), (.int .i32 (0))], true, false⟩) .leaf .leaf) (.node none .leaf .leaf)) (.node (some ⟨.func, 1, 8, [.nilfn], false, false⟩) (.node none .leaf .leaf) (.node none .leaf .leaf))) (.node (some ⟨(.struct [(0, 5), (1, 5), (2, 32), (4, 9), (5, 60)]), 6, 64, [(.int .u8 (0)), (.int .u8 (0)), (.int .i64 (0)), (.int .i64 (0)), (.str []), .nils], true, true⟩) (.node (some ⟨(.struct [(0, 5), (1, 5)]), 2, 2, [(.int .u8 (0)), (.int .u8 (0))], true, true⟩) (.node none .leaf .leaf) (.node none .leaf .leaf)) (.node (some ⟨(.ptr 231), 1, 8, [.nilp], false, false⟩) (.node none .leaf .leaf) (.node none .leaf .leaf)))) (.node (some ⟨(.slice 9), 1, 24, [.nils], false, false⟩) (.node (some ⟨.func, 1, 8, [.nilfn], false, false⟩) (.node (some ⟨(.iface false), 1, 16, [.nili], false, false⟩) (.node none .leaf .leaf) (.node none .leaf .leaf)) (.node (some ⟨(.struct [(0, 53), (1, 4)]), 2, 32, [.nils, (.bool false)], true, true⟩) (.node none .leaf .leaf) (.node none .leaf .leaf))) (.node (some ⟨.func, 1, 8, [.nilfn], false, false⟩) (.node (some ⟨(.arr 256 4), 256, 256, [(.bool false), (.bool false), (.bool false), (.bool false), (.bool false), (.bool false), (.bool false), (.bool false), (.bool false), (.bool false), (.bool false), (.bool false), (.bool false), (.bool false), (.bool false), (.bool false), (.bool false), (.bool false), (.bool false), (.bool false), (.bool false), (.bool false), (.bool false), (.bool false), (.bool false), (.bool false), (.bool false), (.bool false), (.bool false), (.bool false), (.bool false), (.bool false), (.bool false), (.bool false), (.bool false), (.bool false), (.bool false), (.bool false), (.bool false), (.bool false), (.bool false), (.bool false), (.bool false), (.bool false), (.bool false), (.bool false), (.bool false), (.bool false), (.bool false), (.bool false), (.bool false), (.bool false), (.bool false), (.bool false), (.bool false), (.bool false), (.bool false), (.bool false), (.bool false), (.bool false), (.bool false), (.bool false), (.bool false), (.bool false), (.bool false), (.bool false), (.bool false), (.bool false), (.bool false), (.bool false), (.bool false), (.bool false), (.bool false), (.bool false), (.bool false), (.bool false), (.bool false), (.bool false), (.bool false), (.bool false), (.bool false), (.bool false), (.bool false), (.bool false), (.bool false), (.bool false), (.bool false), (.bool false), (.bool false), (.bool false), (.bool false), (.bool false), (.bool false), (.bool false), (.bool false), (.bool false), (.bool false), (.bool false), (.bool false), (.bool false), (.bool false), (.bool false), (.bool false), (.bool false), (.bool false), (.bool false), (.bool false), (.bool false), (.bool false), (.bool false), (.bool false), (.bool false), (.bool false), (.bool false), (.bool false), (.bool false), (.bool false), (.bool false), (.bool false), (.bool false), (.bool false), (.bool false), (.bool false), (.bool false), (.bool false), (.bool false), (.bool false), (.bool false), (.bool false), (.bool false), (.bool false), (.bool false), (.bool false), (.bool false), (.bool false), (.bool false), (.bool false), (.bool false), (.bool false), (.bool false), (.bool false), (.bool false), (.bool false), (.bool false), (.bool false), (.bool false), (.bool false), (.bool false), (.bool false), (.bool false), (.bool false), (.bool false), (.bool false), (.bool false), (.bool false), (.bool false), (.bool false), (.bool false), (.bool false), (.bool false), (.bool false), (.bool false), (.bool false), (.bool false), (.bool false), (.bool false), (.bool false), (.bool false), (.bool false), (.bool false), (.bool false), (.bool false), (.bool false), (.bool false), (.bool false), (.bool false), (.bool false), (.bool false), (.bool false), (.bool false), (.bool false), (.bool false), (.bool false), (.bool false), (.bool false), (.bool false), (.bool false), (.bool false), (.bool false), (.bool false), (.bool false), (.bool false), (.bool false), (.bool false), (.bool false), (.bool false), (.bool false), (.bool false), (.bool false), (.bool false), (.bool false), (.bool false), (.bool false), (.bool false), (.bool false), (.bool false), (.bool false), (.bool false), (.bool false), (.bool false), (.bool false), (.bool false), (.bool false), (.bool false), (.bool false), (.bool false), (.bool false), (.bool false), (.bool false), (.bool false), (.bool false), (.bool false), (.bool false), (.bool false), (.bool false), (.bool false), (.bool false), (.bool false), (.bool false), (.bool false), (.bool false), (.bool false), (.bool false), (.bool false), (.bool false), (.bool false), (.bool false), (.bool false), (.bool false), (.bool false), (.bool false), (.bool false), (.bool false), (.bool false), (.bool false), (.bool false), (.bool false), (.bool false), (.bool false), (.bool false), (.bool false), (.bool false), (.bool false), (.bool false), (.bool false), (.bool false)], true, false⟩) (.node none .leaf .leaf) (.node none .leaf .leaf)) (.node (some ⟨.func, 1, 8, [.nilfn], false, false⟩) (.node none .leaf .leaf) (.node none .leaf .leaf))))) (.node (some ⟨(.struct [(0, 25), (1, 26), (2, 27)]), 3, 72, [.nils, .nils, .nils], true, true⟩) (.node (some ⟨(.slice 44), 1, 24, [.nils], false, false⟩) (.node (some ⟨.func, 1, 8, [.nilfn], false, false⟩) (.node (some ⟨(.ptr 63), 1, 8, [.nilp], false, false⟩) (.node none .leaf .leaf) (.node none .leaf .leaf)) (.node none (.node none .leaf .leaf) (.node none .leaf .leaf))) (.node none (.node (some ⟨(.ptr 175), 1, 8, [.nilp], false, false⟩) (.node none .leaf .leaf) (.node none .leaf .leaf)) (.node (some ⟨.func, 1, 8, [.nilfn], false, false⟩) (.node none .leaf .leaf) (.node none .leaf .leaf)))) (.node (some ⟨(.slice 63), 1, 24, [.nils], false, false⟩) (.node (some ⟨(.slice 5), 1, 24, [.nils], false, false⟩) (.node (some ⟨.func, 1, 8, [.nilfn], false, false⟩) (.node none .leaf .leaf) (.node none .leaf .leaf)) (.node (some ⟨(.int .u16), 1, 2, [(.int .u16 (0))], false, false⟩) (.node none .leaf .leaf) (.node none .leaf .leaf))) (.node (some ⟨.func, 1, 8, [.nilfn], false, false⟩) (.node none (.node none .leaf .leaf) (.node none .leaf .leaf)) (.node (some ⟨(.struct [(0, 251)]), 0, 0, [], true, false⟩) (.node none .leaf .leaf) (.node none .leaf .leaf)))))))) (.node (some ⟨(.int .i64), 1, 8, [(.int .i64 (0))], false, false⟩) (.node (some ⟨.bool, 1, 1, [(.bool false)], false, false⟩) (.node (some ⟨(.struct [(0, 2), (1, 3), (2, 4), (3, 6)]), 4, 24, [(.int .i64 (0)), (.int .i64 (0)), (.bool false), (.int .u8 (0))], true, true⟩) (.node (some ⟨(.ptr 253), 1, 8, [.nilp], false, false⟩) (.node (some ⟨(.struct [(0, 3), (1, 3)]), 2, 16, [(.int .i64 (0)), (.int .i64 (0))], true, true⟩) (.node (some ⟨(.struct [(0, 32), (2, 4), (3, 60), (4, 63)]), 11, 144, [(.int .i64 (0)), (.int .i64 (0)), (.bool false), .nils, (.int .u8 (0)), (.int .i64 (0)), (.int .i64 (0)), (.bool false), (.str []), .nils, .nils], true, true⟩) (.node (some ⟨.func, 1, 8, [.nilfn], false, false⟩) (.node (some ⟨(.int .u8), 1, 1, [(.int .u8 (0))], false, false⟩) .leaf .leaf) (.node none .leaf .leaf)) (.node (some ⟨.func, 1, 8, [.nilfn], false, false⟩) (.node none .leaf .leaf) (.node none .leaf .leaf))) (.node (some ⟨(.struct [(0, 29), (3, 53), (4, 3), (5, 3)]), 6, 112, [.nils, .nils, .nils, .nils, (.int .i64 (0)), (.int .i64 (0))], true, true⟩) (.node (some ⟨.func, 1, 8, [.nilfn], false, false⟩) (.node none .leaf .leaf) (.node none .leaf .leaf)) (.node (some ⟨.func, 1, 8, [.nilfn], false, false⟩) (.node none .leaf .leaf) (.node none .leaf .leaf)))) (.node none (.node (some ⟨(.slice 82), 1, 24, [.nils], false, false⟩) (.node (some ⟨.func, 1, 8, [.nilfn], false, false⟩) (.node none .leaf .leaf) (.node none .leaf .leaf)) (.node (some ⟨(.struct [(0, 9), (1, 9), (2, 149)]), 3, 48, [(.str []), (.str []), .nili], true, false⟩) (.node none .leaf .leaf) (.node none .leaf .leaf))) (.node (some ⟨(.struct [(0, 108), (1, 3), (2, 3)]), 3, 40, [.nils, (.int .i64 (0)), (.int .i64 (0))], true, true⟩) (.node (some ⟨.func, 1, 8, [.nilfn], false, false⟩) (.node none .leaf .leaf) (.node none .leaf .leaf)) (.node (some ⟨.func, 1, 8, [.nilfn], false, false⟩) (.node none .leaf .leaf) (.node none .leaf .leaf))))) (.node (some ⟨.func, 1, 8, [.nilfn], false, false⟩) (.node (some ⟨(.struct [(0, 38), (1, 39), (2, 27)]), 3, 72, [.nils, .nils, .nils], true, true⟩) (.node (some ⟨.func, 1, 8, [.nilfn], false, false⟩) (.node none (.node none .leaf .leaf) (.node none .leaf .leaf)) (.node (some ⟨(.struct [(0, 3), (1, 3)]), 2, 16, [(.int .i64 (0)), (.int .i64 (0))], true, true⟩) (.node none .leaf .leaf) (.node none .leaf .leaf))) (.node (some ⟨(.struct [(0, 103), (1, 70)]), 2, 16, [.nilm, .nilp], true, true⟩) (.node (some ⟨.func, 1, 8, [.nilfn], false, false⟩) (.node none .leaf .leaf) (.node none .leaf .leaf)) (.node (some ⟨.func, 1, 8, [.nilfn], false, false⟩) (.node none .leaf .leaf) (.node none .leaf .leaf)))) (.node (some ⟨.func, 1, 8, [.nilfn], false, false⟩) (.node (some ⟨(.struct [(0, 82), (4, 3)]), 5, 64, [(.int .u8 (0)), (.int .u8 (0)), (.str []), .nils, (.int .i64 (0))], true, true⟩) (.node (some ⟨.func, 1, 8, [.nilfn], false, false⟩) (.node none .leaf .leaf) (.node none .leaf .leaf)) (.node (some ⟨.func, 1, 8, [.nilfn], false, false⟩) (.node none .leaf .leaf) (.node none .leaf .leaf))) (.node (some ⟨.func, 1, 8, [.nilfn], false, false⟩) (.node (some ⟨.func, 1, 8, [.nilfn], false, false⟩) (.node none .leaf .leaf) (.node none .leaf .leaf)) (.node (some ⟨(.arr 64 5), 64, 64, [(.int .u8 (0)), (.int .u8 (0)), (.int .u8 (0)), (.int .u8 (0)), (.int .u8 (0)), (.int .u8 (0)), (.int .u8 (0)), (.int .u8 (0)), (.int .u8 (0)), (.int .u8 (0)), (.int .u8 (0)), (.int .u8 (0)), (.int .u8 (0)), (.int .u8 (0)), (.int .u8 (0)), (.int .u8 (0)), (.int .u8 (0)), (.int .u8 (0)), (.int .u8 (0)), (.int .u8 (0)), (.int .u8 (0)), (.int .u8 (0)), (.int .u8 (0)), (.int .u8 (0)), (.int .u8 (0)), (.int .u8 (0)), (.int .u8 (0)), (.int .u8 (0)), (.int .u8 (0)), (.int .u8 (0)), (.int .u8 (0)), (.int .u8 (0)), (.int .u8 (0)), (.int .u8 (0)), (.int .u8 (0)), (.int .u8 (0)), (.int .u8 (0)), (.int .u8 (0)), (.int .u8 (0)), (.int .u8 (0)), (.int .u8 (0)), (.int .u8 (0)), (.int .u8 (0)), (.int .u8 (0)), (.int .u8 (0)), (.int .u8 (0)), (.int .u8 (0)), (.int .u8 (0)), (.int .u8 (0)), (.int .u8 (0)), (.int .u8 (0)), (.int .u8 (0)), (.int .u8 (0)), (.int .u8 (0)), (.int .u8 (0)), (.int .u8 (0)), (.int .u8 (0)), (.int .u8 (0)), (.int .u8 (0)), (.int .u8 (0)), (.int .u8 (0)), (.int .u8 (0)), (.int .u8 (0)), (.int .u8 (0))], true, false⟩) (.node none .leaf .leaf) (.node none .leaf .leaf)))))) (.node (some ⟨(.int .u64), 1, 8, [(.int .u64 (0))], false, false⟩) (.node (some ⟨(.iface true), 1, 16, [.nili], false, false⟩) (.node (some ⟨(.struct [(0, 9), (1, 32)]), 3, 32, [(.str []), (.int .i64 (0)), (.int .i64 (0))], true, true⟩) (.node (some ⟨(.struct [(0, 29)]), 3, 72, [.nils, .nils, .nils], true, true⟩) (.node (some ⟨.func, 1, 8, [.nilfn], false, false⟩) (.node (some ⟨(.struct [(0, 12), (1, 12), (2, 202), (3, 255), (4, 5), (5, 5), (6, 256), (7, 257), (8, 196), (9, 258), (10, 259)]), 11, 48, [(.int .u64 (0)), (.int .u64 (0)), (.int .u32 (0)), (.int .u8 (0)), (.int .u8 (0)), (.int .u8 (0)), (.int .u8 (0)), .nilfn, .nilp, (.int .i32 (0)), (.int .i32 (0))], true, false⟩) .leaf .leaf) (.node none .leaf .leaf)) (.node (some ⟨(.ptr 5), 1, 8, [.nilp], false, false⟩) (.node none .leaf .leaf) (.node none .leaf .leaf))) (.node (some ⟨(.struct [(0, 5), (1, 5), (2, 32), (4, 9), (5, 60)]), 6, 64, [(.int .u8 (0)), (.int .u8 (0)), (.int .i64 (0)), (.int .i64 (0)), (.str []), .nils], true, true⟩) (.node (some ⟨(.struct [(0, 5), (1, 5)]), 2, 2, [(.int .u8 (0)), (.int .u8 (0))], true, true⟩) (.node none .leaf .leaf) (.node none .leaf .leaf)) (.node (some ⟨.func, 1, 8, [.nilfn], false, false⟩) (.node none .leaf .leaf) (.node none .leaf .leaf)))) (.node (some ⟨.func, 1, 8, [.nilfn], false, false⟩) (.node (some ⟨.func, 1, 8, [.nilfn], false, false⟩) (.node (some ⟨(.iface false), 1, 16, [.nili], false, false⟩) (.node none .leaf .leaf) (.node none .leaf .leaf)) (.node (some ⟨(.struct [(0, 53), (1, 4)]), 2, 32, [.nils, (.bool false)], true, true⟩) (.node none .leaf .leaf) (.node none .leaf .leaf))) (.node (some ⟨.func, 1, 8, [.nilfn], false, false⟩) (.node (some ⟨(.arr 256 4), 256, 256, [(.bool false), (.bool false), (.bool false), (.bool false), (.bool false), (.bool false), (.bool false), (.bool false), (.bool false), (.bool false), (.bool false), (.bool false), (.bool false), (.bool false), (.bool false), (.bool false), (.bool false), (.bool false), (.bool false), (.bool false), (.bool false), (.bool false), (.bool false), (.bool false), (.bool false), (.bool false), (.bool false), (.bool false), (.bool false), (.bool false), (.bool false), (.bool false), (.bool false), (.bool false), (.bool false), (.bool false), (.bool false), (.bool false), (.bool false), (.bool false), (.bool false), (.bool false), (.bool false), (.bool false), (.bool false), (.bool false), (.bool false), (.bool false), (.bool false), (.bool false), (.bool false), (.bool false), (.bool false), (.bool false), (.bool false), (.bool false), (.bool false), (.bool false), (.bool false), (.bool false), (.bool false), (.bool false), (.bool false), (.bool false), (.bool false), (.bool false), (.bool false), (.bool false), (.bool false), (.bool false), (.bool false), (.bool false), (.bool false), (.bool false), (.bool false), (.bool false), (.bool false), (.bool false), (.bool false), (.bool false), (.bool false), (.bool false), (.bool false), (.bool false), (.bool false), (.bool false), (.bool false), (.bool false), (.bool false), (.bool false), (.bool false), (.bool false), (.bool false), (.bool false), (.bool false), (.bool false), (.bool false), (.bool false), (.bool false), (.bool false), (.bool false), (.bool false), (.bool false), (.bool false), (.bool false), (.bool false), (.bool false), (.bool false), (.bool false), (.bool false), (.bool false), (.bool false), (.bool false), (.bool false), (.bool false), (.bool false), (.bool false), (.bool false), (.bool false), (.bool false), (.bool false), (.bool false), (.bool false), (.bool false), (.bool false), (.bool false), (.bool false), (.bool false), (.bool false), (.bool false), (.bool false), (.bool false), (.bool false), (.bool false), (.bool false), (.bool false), (.bool false), (.bool false), (.bool false), (.bool false), (.bool false), (.bool false), (.bool false), (.bool false), (.bool false), (.bool false), (.bool false), (.bool false), (.bool false), (.bool false), (.bool false), (.bool false), (.bool false), (.bool false), (.bool false), (.bool false), (.bool false), (.bool false), (.bool false), (.bool false), (.bool false), (.bool false), (.bool false), (.bool false), (.bool false), (.bool false), (.bool false), (.bool false), (.bool false), (.bool false), (.bool false), (.bool false), (.bool false), (.bool false), (.bool false), (.bool false), (.bool false), (.bool false), (.bool false), (.bool false), (.bool false), (.bool false), (.bool false), (.bool false), (.bool false), (.bool false), (.bool false), (.bool false), (.bool false), (.bool false), (.bool false), (.bool false), (.bool false), (.bool false), (.bool false), (.bool false), (.bool false), (.bool false), (.bool false), (.bool false), (.bool false), (.bool false), (.bool false), (.bool false), (.bool false), (.bool false), (.bool false), (.bool false), (.bool false), (.bool false), (.bool false), (.bool false), (.bool false), (.bool false), (.bool false), (.bool false), (.bool false), (.bool false), (.bool false), (.bool false), (.bool false), (.bool false), (.bool false), (.bool false), (.bool false), (.bool false), (.bool false), (.bool false), (.bool false), (.bool false), (.bool false), (.bool false), (.bool false), (.bool false), (.bool false), (.bool false), (.bool false), (.bool false), (.bool false), (.bool false), (.bool false), (.bool false), (.bool false), (.bool false), (.bool false), (.bool false), (.bool false), (.bool false), (.bool false), (.bool false), (.bool false), (.bool false), (.bool false), (.bool false), (.bool false), (.bool false)], true, false⟩) (.node none .leaf .leaf) (.node none .leaf .leaf)) (.node (some ⟨.func, 1, 8, [.nilfn], false, false⟩) (.node none .leaf .leaf) (.node none .leaf .leaf))))) (.node (some ⟨(.struct [(0, 25), (1, 26), (2, 27)]), 3, 72, [.nils, .nils, .nils], true, true⟩) (.node (some ⟨(.struct [(0, 9), (1, 27), (2, 27)]), 3, 64, [(.str []), .nils, .nils], true, true⟩) (.node none (.node (some ⟨.func, 1, 8, [.nilfn], false, false⟩) (.node none .leaf .leaf) (.node none .leaf .leaf)) (.node (some ⟨(.ptr 220), 1, 8, [.nilp], false, false⟩) (.node none .leaf .leaf) (.node none .leaf .leaf))) (.node (some ⟨(.slice 79), 1, 24, [.nils], false, false⟩) (.node (some ⟨.func, 1, 8, [.nilfn], false, false⟩) (.node none .leaf .leaf) (.node none .leaf .leaf)) (.node (some ⟨(.arr 24 5), 24, 24, [(.int .u8 (0)), (.int .u8 (0)), (.int .u8 (0)), (.int .u8 (0)), (.int .u8 (0)), (.int .u8 (0)), (.int .u8 (0)), (.int .u8 (0)), (.int .u8 (0)), (.int .u8 (0)), (.int .u8 (0)), (.int .u8 (0)), (.int .u8 (0)), (.int .u8 (0)), (.int .u8 (0)), (.int .u8 (0)), (.int .u8 (0)), (.int .u8 (0)), (.int .u8 (0)), (.int .u8 (0)), (.int .u8 (0)), (.int .u8 (0)), (.int .u8 (0)), (.int .u8 (0))], true, false⟩) (.node none .leaf .leaf) (.node none .leaf .leaf)))) (.node (some ⟨(.slice 101), 1, 24, [.nils], false, false⟩) (.node (some ⟨.func, 1, 8, [.nilfn], false, false⟩) (.node (some ⟨.func, 1, 8, [.nilfn], false, false⟩) (.node none .leaf .leaf) (.node none .leaf .leaf)) (.node (some ⟨(.struct [(0, 217), (1, 218), (2, 3)]), 3, 56, [.nils, .nils, (.int .i64 (0))], true, true⟩) (.node none .leaf .leaf) (.node none .leaf .leaf))) (.node (some ⟨.func, 1, 8, [.nilfn], false, false⟩) (.node (some ⟨(.int .i64), 1, 8, [(.int .i64 (0))], false, false⟩) (.node none .leaf .leaf) (.node none .leaf .leaf)) (.node (some ⟨(.struct [(0, 251)]), 0, 0, [], true, false⟩) (.node none .leaf .leaf) (.node none .leaf .leaf))))))) (.node (some ⟨(.int .u8), 1, 1, [(.int .u8 (0))], false, false⟩) (.node (some ⟨.str, 1, 16, [(.str [])], false, false⟩) (.node (some ⟨(.struct [(0, 17)]), 1, 8, [.nilp], true, false⟩) (.node (some ⟨(.struct [(0, 9), (1, 32), (3, 3)]), 4, 40, [(.str []), (.int .i64 (0)), (.int .i64 (0)), (.int .i64 (0))], true, true⟩) (.node (some ⟨.func, 1, 8, [.nilfn], false, false⟩) (.node none (.node (some ⟨(.int .i32), 1, 4, [(.int .i32 (0))], false, false⟩) .leaf .leaf) (.node none .leaf .leaf)) (.node (some ⟨.func, 1, 8, [.nilfn], false, false⟩) (.node none .leaf .leaf) (.node none .leaf .leaf))) (.node (some ⟨.func, 1, 8, [.nilfn], false, false⟩) (.node (some ⟨.func, 1, 8, [.nilfn], false, false⟩) (.node none .leaf .leaf) (.node none .leaf .leaf)) (.node (some ⟨(.struct [(0, 202), (1, 202), (2, 202)]), 3, 12, [(.int .u32 (0)), (.int .u32 (0)), (.int .u32 (0))], true, true⟩) (.node none .leaf .leaf) (.node none .leaf .leaf)))) (.node (some ⟨.func, 1, 8, [.nilfn], false, false⟩) (.node (some ⟨(.struct [(0, 5), (1, 79), (3, 80)]), 4, 56, [(.int .u8 (0)), (.int .u8 (0)), (.str []), .nils], true, true⟩) (.node (some ⟨(.map 9 5), 1, 8, [.nilm], false, false⟩) (.node none .leaf .leaf) (.node none .leaf .leaf)) (.node (some ⟨(.slice 213), 1, 24, [.nils], false, false⟩) (.node none .leaf .leaf) (.node none .leaf .leaf))) (.node (some ⟨.func, 1, 8, [.nilfn], false, false⟩) (.node (some ⟨(.int .u64), 1, 8, [(.int .u64 (0))], false, false⟩) (.node none .leaf .leaf) (.node none .leaf .leaf)) (.node (some ⟨(.arr 20 178), 20, 160, [(.int .u64 (0)), (.int .u64 (0)), (.int .u64 (0)), (.int .u64 (0)), (.int .u64 (0)), (.int .u64 (0)), (.int .u64 (0)), (.int .u64 (0)), (.int .u64 (0)), (.int .u64 (0)), (.int .u64 (0)), (.int .u64 (0)), (.int .u64 (0)), (.int .u64 (0)), (.int .u64 (0)), (.int .u64 (0)), (.int .u64 (0)), (.int .u64 (0)), (.int .u64 (0)), (.int .u64 (0))], true, false⟩) (.node none .leaf .leaf) (.node none .leaf .leaf))))) (.node (some ⟨(.slice 34), 1, 24, [.nils], false, false⟩) (.node (some ⟨.func, 1, 8, [.nilfn], false, false⟩) (.node (some ⟨(.struct [(0, 9), (1, 32)]), 3, 32, [(.str []), (.int .i64 (0)), (.int .i64 (0))], true, true⟩) (.node (some ⟨.func, 1, 8, [.nilfn], false, false⟩) (.node none .leaf .leaf) (.node none .leaf .leaf)) (.node (some ⟨(.int .u32), 1, 4, [(.int .u32 (0))], false, false⟩) (.node none .leaf .leaf) (.node none .leaf .leaf))) (.node (some ⟨.func, 1, 8, [.nilfn], false, false⟩) (.node (some ⟨.func, 1, 8, [.nilfn], false, false⟩) (.node none .leaf .leaf) (.node none .leaf .leaf)) (.node (some ⟨(.ptr 226), 1, 8, [.nilp], false, false⟩) (.node none .leaf .leaf) (.node none .leaf .leaf)))) (.node (some ⟨.func, 1, 8, [.nilfn], false, false⟩) (.node (some ⟨.func, 1, 8, [.nilfn], false, false⟩) (.node none (.node none .leaf .leaf) (.node none .leaf .leaf)) (.node (some ⟨(.slice 226), 1, 24, [.nils], false, false⟩) (.node none .leaf .leaf) (.node none .leaf .leaf))) (.node (some ⟨.func, 1, 8, [.nilfn], false, false⟩) (.node (some ⟨.func, 1, 8, [.nilfn], false, false⟩) (.node none .leaf .leaf) (.node none .leaf .leaf)) (.node (some ⟨(.struct [(0, 17), (1, 17), (2, 17), (3, 9)]), 4, 40, [.nilp, .nilp, .nilp, (.str [])], true, false⟩) (.node none .leaf .leaf) (.node none .leaf .leaf)))))) (.node (some ⟨(.struct [(0, 9), (1, 12)]), 2, 24, [(.str []), (.int .u64 (0))], true, false⟩) (.node (some ⟨(.slice 65), 1, 24, [.nils], false, false⟩) (.node (some ⟨(.slice 74), 1, 24, [.nils], false, false⟩) (.node (some ⟨(.ptr 105), 1, 8, [.nilp], false, false⟩) (.node (some ⟨.func, 1, 8, [.nilfn], false, false⟩) (.node none .leaf .leaf) (.node none .leaf .leaf)) (.node (some ⟨.func, 1, 8, [.nilfn], false, false⟩) (.node none .leaf .leaf) (.node none .leaf .leaf))) (.node (some ⟨.func, 1, 8, [.nilfn], false, false⟩) (.node (some ⟨(.arr 16 165), 32, 32, [(.int .u8 (0)), (.int .u8 (0)), (.int .u8 (0)), (.int .u8 (0)), (.int .u8 (0)), (.int .u8 (0)), (.int .u8 (0)), (.int .u8 (0)), (.int .u8 (0)), (.int .u8 (0)), (.int .u8 (0)), (.int .u8 (0)), (.int .u8 (0)), (.int .u8 (0)), (.int .u8 (0)), (.int .u8 (0)), (.int .u8 (0)), (.int .u8 (0)), (.int .u8 (0)), (.int .u8 (0)), (.int .u8 (0)), (.int .u8 (0)), (.int .u8 (0)), (.int .u8 (0)), (.int .u8 (0)), (.int .u8 (0)), (.int .u8 (0)), (.int .u8 (0)), (.int .u8 (0)), (.int .u8 (0)), (.int .u8 (0)), (.int .u8 (0))], true, false⟩) (.node none .leaf .leaf) (.node none .leaf .leaf)) (.node (some ⟨(.struct [(0, 9)]), 1, 16, [(.str [])], true, true⟩) (.node none .leaf .leaf) (.node none .leaf .leaf)))) (.node (some ⟨.func, 1, 8, [.nilfn], false, false⟩) (.node (some ⟨(.slice 88), 1, 24, [.nils], false, false⟩) (.node none (.node none .leaf .leaf) (.node none .leaf .leaf)) (.node (some ⟨.uptr, 1, 8, [.nilp], false, false⟩) (.node none .leaf .leaf) (.node none .leaf .leaf))) (.node (some ⟨.func, 1, 8, [.nilfn], false, false⟩) (.node none (.node none .leaf .leaf) (.node none .leaf .leaf)) (.node (some ⟨.func, 1, 8, [.nilfn], false, false⟩) (.node none .leaf .leaf) (.node none .leaf .leaf))))) (.node (some ⟨.func, 1, 8, [.nilfn], false, false⟩) (.node (some ⟨.func, 1, 8, [.nilfn], false, false⟩) (.node (some ⟨(.struct [(0, 5), (1, 9)]), 2, 24, [(.int .u8 (0)), (.str [])], true, true⟩) (.node (some ⟨.func, 1, 8, [.nilfn], false, false⟩) (.node none .leaf .leaf) (.node none .leaf .leaf)) (.node (some ⟨.func, 1, 8, [.nilfn], false, false⟩) (.node none .leaf .leaf) (.node none .leaf .leaf))) (.node (some ⟨.func, 1, 8, [.nilfn], false, false⟩) (.node (some ⟨(.struct [(0, 173), (1, 93)]), 2, 32, [.nilp, .nils], true, true⟩) (.node none .leaf .leaf) (.node none .leaf .leaf)) (.node (some ⟨.func, 1, 8, [.nilfn], false, false⟩) (.node none .leaf .leaf) (.node none .leaf .leaf)))) (.node (some ⟨(.struct [(0, 5), (1, 32), (3, 4), (4, 9), (5, 60), (6, 61)]), 7, 96, [(.int .u8 (0)), (.int .i64 (0)), (.int .i64 (0)), (.bool false), (.str []), .nils, .nils], true, true⟩) (.node (some ⟨.func, 1, 8, [.nilfn], false, false⟩) (.node (some ⟨.func, 1, 8, [.nilfn], false, false⟩) (.node none .leaf .leaf) (.node none .leaf .leaf)) (.node (some ⟨(.struct [(0, 221), (1, 221), (2, 221)]), 3, 6, [(.int .u16 (0)), (.int .u16 (0)), (.int .u16 (0))], true, true⟩) (.node none .leaf .leaf) (.node none .leaf .leaf))) (.node (some ⟨.func, 1, 8, [.nilfn], false, false⟩) (.node (some ⟨.func, 1, 8, [.nilfn], false, false⟩) (.node none .leaf .leaf) (.node none .leaf .leaf)) (.node (some ⟨.func, 1, 8, [.nilfn], false, false⟩) (.node none .leaf .leaf) (.node none .leaf .leaf)))))))))
theorem vT_ok : TOk Tryz.prog vT := tt_ok (d := 9) (by kernel_rfl)
noncomputable def vF : Tr Func := (.node none (.node none (.node (some Tryz.f3) (.node (some Tryz.f7) (.node (some Tryz.f15) (.node (some Tryz.f31) (.node (some Tryz.f63) (.node none .leaf .leaf) .leaf) (.node none (.node none .leaf .leaf) .leaf)) (.node (some Tryz.f47) (.node (some Tryz.f79) (.node none .leaf .leaf) .leaf) (.node none (.node none .leaf .leaf) .leaf))) (.node (some Tryz.f23) (.node (some Tryz.f39) (.node (some Tryz.f71) (.node none .leaf .leaf) .leaf) (.node (some Tryz.f103) (.node none .leaf .leaf) .leaf)) (.node (some Tryz.f55) (.node (some Tryz.f87) (.node none .leaf .leaf) .leaf) (.node (some Tryz.f119) (.node none .leaf .leaf) .leaf)))) (.node (some Tryz.f11) (.node (some Tryz.f19) (.node (some Tryz.f35) (.node (some Tryz.f67) (.node (some Tryz.f131) .leaf .leaf) .leaf) (.node (some Tryz.f99) (.node none .leaf .leaf) .leaf)) (.node (some Tryz.f51) (.node (some Tryz.f83) (.node none .leaf .leaf) .leaf) (.node none (.node none .leaf .leaf) .leaf))) (.node (some Tryz.f27) (.node (some Tryz.f43) (.node (some Tryz.f75) (.node none .leaf .leaf) .leaf) (.node none (.node none .leaf .leaf) .leaf)) (.node (some Tryz.f59) (.node none (.node none .leaf .leaf) .leaf) (.node none (.node none .leaf .leaf) .leaf))))) (.node none (.node (some Tryz.f9) (.node (some Tryz.f17) (.node (some Tryz.f33) (.node none (.node none .leaf .leaf) .leaf) (.node (some Tryz.f97) (.node none .leaf .leaf) .leaf)) (.node (some Tryz.f49) (.node (some Tryz.f81) (.node none .leaf .leaf) .leaf) (.node none (.node none .leaf .leaf) .leaf))) (.node (some Tryz.f25) (.node (some Tryz.f41) (.node (some Tryz.f73) (.node none .leaf .leaf) .leaf) (.node none (.node none .leaf .leaf) .leaf)) (.node (some Tryz.f57) (.node (some Tryz.f89) (.node none .leaf .leaf) .leaf) (.node (some Tryz.f121) (.node none .leaf .leaf) .leaf)))) (.node (some Tryz.f13) (.node (some Tryz.f21) (.node (some Tryz.f37) (.node none (.node none .leaf .leaf) .leaf) (.node (some Tryz.f101) (.node none .leaf .leaf) .leaf)) (.node (some Tryz.f53) (.node (some Tryz.f85) (.node none .leaf .leaf) .leaf) (.node none (.node none .leaf .leaf) .leaf))) (.node (some Tryz.f29) (.node (some Tryz.f45) (.node (some Tryz.f77) (.node none .leaf .leaf) .leaf) (.node none (.node none .leaf .leaf) .leaf)) (.node (some Tryz.f61) (.node (some Tryz.f93) (.node none .leaf .leaf) .leaf) (.node none (.node none .leaf .leaf) .leaf)))))) (.node none (.node (some Tryz.f4) (.node (some Tryz.f8) (.node (some Tryz.f16) (.node (some Tryz.f32) (.node (some Tryz.f64) (.node none .leaf .leaf) .leaf) (.node (some Tryz.f96) (.node none .leaf .leaf) .leaf)) (.node (some Tryz.f48) (.node (some Tryz.f80) (.node none .leaf .leaf) .leaf) (.node none (.node none .leaf .leaf) .leaf))) (.node (some Tryz.f24) (.node (some Tryz.f40) (.node (some Tryz.f72) (.node none .leaf .leaf) .leaf) (.node (some Tryz.f104) (.node none .leaf .leaf) .leaf)) (.node (some Tryz.f56) (.node (some Tryz.f88) (.node none .leaf .leaf) .leaf) (.node (some Tryz.f120) (.node none .leaf .leaf) .leaf)))) (.node (some Tryz.f12) (.node (some Tryz.f20) (.node (some Tryz.f36) (.node (some Tryz.f68) (.node (some Tryz.f132) .leaf .leaf) .leaf) (.node (some Tryz.f100) (.node none .leaf .leaf) .leaf)) (.node (some Tryz.f52) (.node (some Tryz.f84) (.node none .leaf .leaf) .leaf) (.node none (.node none .leaf .leaf) .leaf))) (.node (some Tryz.f28) (.node (some Tryz.f44) (.node (some Tryz.f76) (.node none .leaf .leaf) .leaf) (.node none (.node none .leaf .leaf) .leaf)) (.node (some Tryz.f60) (.node (some Tryz.f92) (.node none .leaf .leaf) .leaf) (.node none (.node none .leaf .leaf) .leaf))))) (.node (some Tryz.f6) (.node (some Tryz.f10) (.node (some Tryz.f18) (.node (some Tryz.f34) (.node (some Tryz.f66) (.node none .leaf .leaf) .leaf) (.node none (.node none .leaf .leaf) .leaf)) (.node (some Tryz.f50) (.node (some Tryz.f82) (.node none .leaf .leaf) .leaf) (.node none (.node none .leaf .leaf) .leaf))) (.node (some Tryz.f26) (.node (some Tryz.f42) (.node (some Tryz.f74) (.node none .leaf .leaf) .leaf) (.node none (.node none .leaf .leaf) .leaf)) (.node (some Tryz.f58) (.node none (.node none .leaf .leaf) .leaf) (.node (some Tryz.f122) (.node none .leaf .leaf) .leaf)))) (.node (some Tryz.f14) (.node (some Tryz.f22) (.node (some Tryz.f38) (.node (some Tryz.f70) (.node none .leaf .leaf) .leaf) (.node (some Tryz.f102) (.node none .leaf .leaf) .leaf)) (.node (some Tryz.f54) (.node (some Tryz.f86) (.node none .leaf .leaf) .leaf) (.node none (.node none .leaf .leaf) .leaf))) (.node (some Tryz.f30) (.node (some Tryz.f46) (.node (some Tryz.f78) (.node none .leaf .leaf) .leaf) (.node none (.node none .leaf .leaf) .leaf)) (.node (some Tryz.f62) (.node none (.node none .leaf .leaf) .leaf) (.node none (.node none .leaf .leaf) .leaf)))))))
theorem vF_ok : Tr.Every (FnOk Tryz.prog) vF := (Tr.every_node noFn (Tr.every_node noFn (Tr.every_node (fnOk Tryz.func3 Tryz.call3 (by kernel_rfl)) (Tr.every_node (fnOk Tryz.func7 Tryz.call7 (by kernel_rfl)) (Tr.every_node (fnOk Tryz.func15 Tryz.call15 (by kernel_rfl)) (Tr.every_node (fnOk Tryz.func31 Tryz.call31 (by kernel_rfl)) (Tr.every_node (fnOk Tryz.func63 Tryz.call63 (by kernel_rfl)) (Tr.every_node noFn Tr.every_leaf Tr.every_leaf) Tr.every_leaf) (Tr.every_node noFn (Tr.every_node noFn Tr.every_leaf Tr.every_leaf) Tr.every_leaf)) (Tr.every_node (fnOk Tryz.func47 Tryz.call47 (by kernel_rfl)) (Tr.every_node (fnOk Tryz.func79 Tryz.call79 (by kernel_rfl)) (Tr.every_node noFn Tr.every_leaf Tr.every_leaf) Tr.every_leaf) (Tr.every_node noFn (Tr.every_node noFn Tr.every_leaf Tr.every_leaf) Tr.every_leaf))) (Tr.every_node (fnOk Tryz.func23 Tryz.call23 (by kernel_rfl)) (Tr.every_node (fnOk Tryz.func39 Tryz.call39 (by kernel_rfl)) (Tr.every_node (fnOk Tryz.func71 Tryz.call71 (by kernel_rfl)) (Tr.every_node noFn Tr.every_leaf Tr.every_leaf) Tr.every_leaf) (Tr.every_node (fnOk Tryz.func103 Tryz.call103 (by kernel_rfl)) (Tr.every_node noFn Tr.every_leaf Tr.every_leaf) Tr.every_leaf)) (Tr.every_node (fnOk Tryz.func55 Tryz.call55 (by kernel_rfl)) (Tr.every_node (fnOk Tryz.func87 Tryz.call87 (by kernel_rfl)) (Tr.every_node noFn Tr.every_leaf Tr.every_leaf) Tr.every_leaf) (Tr.every_node (fnOk Tryz.func119 Tryz.call119 (by kernel_rfl)) (Tr.every_node noFn Tr.every_leaf Tr.every_leaf) Tr.every_leaf)))) (Tr.every_node (fnOk Tryz.func11 Tryz.call11 (by kernel_rfl)) (Tr.every_node (fnOk Tryz.func19 Tryz.call19 (by kernel_rfl)) (Tr.every_node (fnOk Tryz.func35 Tryz.call35 (by kernel_rfl)) (Tr.every_node (fnOk Tryz.func67 Tryz.call67 (by kernel_rfl)) (Tr.every_node (fnOk Tryz.func131 Tryz.call131 (by kernel_rfl)) Tr.every_leaf Tr.every_leaf) Tr.every_leaf) (Tr.every_node (fnOk Tryz.func99 Tryz.call99 (by kernel_rfl)) (Tr.every_node noFn Tr.every_leaf Tr.every_leaf) Tr.every_leaf)) (Tr.every_node (fnOk Tryz.func51 Tryz.call51 (by kernel_rfl)) (Tr.every_node (fnOk Tryz.func83 Tryz.call83 (by kernel_rfl)) (Tr.every_node noFn Tr.every_leaf Tr.every_leaf) Tr.every_leaf) (Tr.every_node noFn (Tr.every_node noFn Tr.every_leaf Tr.every_leaf) Tr.every_leaf))) (Tr.every_node (fnOk Tryz.func27 Tryz.call27 (by kernel_rfl)) (Tr.every_node (fnOk Tryz.func43 Tryz.call43 (by kernel_rfl)) (Tr.every_node (fnOk Tryz.func75 Tryz.call75 (by kernel_rfl)) (Tr.every_node noFn Tr.every_leaf Tr.every_leaf) Tr.every_leaf) (Tr.every_node noFn (Tr.every_node noFn Tr.every_leaf Tr.every_leaf) Tr.every_leaf)) (Tr.every_node (fnOk Tryz.func59 Tryz.call59 (by kernel_rfl)) (Tr.every_node noFn (Tr.every_node noFn Tr.every_leaf Tr.every_leaf) Tr.every_leaf) (Tr.every_node noFn (Tr.every_node noFn Tr.every_leaf Tr.every_leaf) Tr.every_leaf))))) (Tr.every_node noFn (Tr.every_node (fnOk Tryz.func9 Tryz.call9 (by kernel_rfl)) (Tr.every_node (fnOk Tryz.func17 Tryz.call17 (by kernel_rfl)) (Tr.every_node (fnOk Tryz.func33 Tryz.call33 (by kernel_rfl)) (Tr.every_node noFn (Tr.every_node noFn Tr.every_leaf Tr.every_leaf) Tr.every_leaf) (Tr.every_node (fnOk Tryz.func97 Tryz.call97 (by kernel_rfl)) (Tr.every_node noFn Tr.every_leaf Tr.every_leaf) Tr.every_leaf)) (Tr.every_node (fnOk Tryz.func49 Tryz.call49 (by kernel_rfl)) (Tr.every_node (fnOk Tryz.func81 Tryz.call81 (by kernel_rfl)) (Tr.every_node noFn Tr.every_leaf Tr.every_leaf) Tr.every_leaf) (Tr.every_node noFn (Tr.every_node noFn Tr.every_leaf Tr.every_leaf) Tr.every_leaf))) (Tr.every_node (fnOk Tryz.func25 Tryz.call25 (by kernel_rfl)) (Tr.every_node (fnOk Tryz.func41 Tryz.call41 (by kernel_rfl)) (Tr.every_node (fnOk Tryz.func73 Tryz.call73 (by kernel_rfl)) (Tr.every_node noFn Tr.every_leaf Tr.every_leaf) Tr.every_leaf) (Tr.every_node noFn (Tr.every_node noFn Tr.every_leaf Tr.every_leaf) Tr.every_leaf)) (Tr.every_node (fnOk Tryz.func57 Tryz.call57 (by kernel_rfl)) (Tr.every_node (fnOk Tryz.func89 Tryz.call89 (by kernel_rfl)) (Tr.every_node noFn Tr.every_leaf Tr.every_leaf) Tr.every_leaf) (Tr.every_node (fnOk Tryz.func121 Tryz.call121 (by kernel_rfl)) (Tr.every_node noFn Tr.every_leaf Tr.every_leaf) Tr.every_leaf)))) (Tr.every_node (fnOk Tryz.func13 Tryz.call13 (by kernel_rfl)) (Tr.every_node (fnOk Tryz.func21 Tryz.call21 (by kernel_rfl)) (Tr.every_node (fnOk Tryz.func37 Tryz.call37 (by kernel_rfl)) (Tr.every_node noFn (Tr.every_node noFn Tr.every_leaf Tr.every_leaf) Tr.every_leaf) (Tr.every_node (fnOk Tryz.func101 Tryz.call101 (by kernel_rfl)) (Tr.every_node noFn Tr.every_leaf Tr.every_leaf) Tr.every_leaf)) (Tr.every_node (fnOk Tryz.func53 Tryz.call53 (by kernel_rfl)) (Tr.every_node (fnOk Tryz.func85 Tryz.call85 (by kernel_rfl)) (Tr.every_node noFn Tr.every_leaf Tr.every_leaf) Tr.every_leaf) (Tr.every_node noFn (Tr.every_node noFn Tr.every_leaf Tr.every_leaf) Tr.every_leaf))) (Tr.every_node (fnOk Tryz.func29 Tryz.call29 (by kernel_rfl)) (Tr.every_node (fnOk Tryz.func45 Tryz.call45 (by kernel_rfl)) (Tr.every_node (fnOk Tryz.func77 Tryz.call77 (by kernel_rfl)) (Tr.every_node noFn Tr.every_leaf Tr.every_leaf) Tr.every_leaf) (Tr.every_node noFn (Tr.every_node noFn Tr.every_leaf Tr.every_leaf) Tr.every_leaf)) (Tr.every_node (fnOk Tryz.func61 Tryz.call61 (by kernel_rfl)) (Tr.every_node (fnOk Tryz.func93 Tryz.call93 (by kernel_rfl)) (Tr.every_node noFn Tr.every_leaf Tr.every_leaf) Tr.every_leaf) (Tr.every_node noFn (Tr.every_node noFn Tr.every_leaf Tr.every_leaf) Tr.every_leaf)))))) (Tr.every_node noFn (Tr.every_node (fnOk Tryz.func4 Tryz.call4 (by kernel_rfl)) (Tr.every_node (fnOk Tryz.func8 Tryz.call8 (by kernel_rfl)) (Tr.every_node (fnOk Tryz.func16 Tryz.call16 (by kernel_rfl)) (Tr.every_node (fnOk Tryz.func32 Tryz.call32 (by kernel_rfl)) (Tr.every_node (fnOk Tryz.func64 Tryz.call64 (by kernel_rfl)) (Tr.every_node noFn Tr.every_leaf Tr.every_leaf) Tr.every_leaf) (Tr.every_node (fnOk Tryz.func96 Tryz.call96 (by kernel_rfl)) (Tr.every_node noFn Tr.every_leaf Tr.every_leaf) Tr.every_leaf)) (Tr.every_node (fnOk Tryz.func48 Tryz.call48 (by kernel_rfl)) (Tr.every_node (fnOk Tryz.func80 Tryz.call80 (by kernel_rfl)) (Tr.every_node noFn Tr.every_leaf Tr.every_leaf) Tr.every_leaf) (Tr.every_node noFn (Tr.every_node noFn Tr.every_leaf Tr.every_leaf) Tr.every_leaf))) (Tr.every_node (fnOk Tryz.func24 Tryz.call24 (by kernel_rfl)) (Tr.every_node (fnOk Tryz.func40 Tryz.call40 (by kernel_rfl)) (Tr.every_node (fnOk Tryz.func72 Tryz.call72 (by kernel_rfl)) (Tr.every_node noFn Tr.every_leaf Tr.every_leaf) Tr.every_leaf) (Tr.every_node (fnOk Tryz.func104 Tryz.call104 (by kernel_rfl)) (Tr.every_node noFn Tr.every_leaf Tr.every_leaf) Tr.every_leaf)) (Tr.every_node (fnOk Tryz.func56 Tryz.call56 (by kernel_rfl)) (Tr.every_node (fnOk Tryz.func88 Tryz.call88 (by kernel_rfl)) (Tr.every_node noFn Tr.every_leaf Tr.every_leaf) Tr.every_leaf) (Tr.every_node (fnOk Tryz.func120 Tryz.call120 (by kernel_rfl)) (Tr.every_node noFn Tr.every_leaf Tr.every_leaf) Tr.every_leaf)))) (Tr.every_node (fnOk Tryz.func12 Tryz.call12 (by kernel_rfl)) (Tr.every_node (fnOk Tryz.func20 Tryz.call20 (by kernel_rfl)) (Tr.every_node (fnOk Tryz.func36 Tryz.call36 (by kernel_rfl)) (Tr.every_node (fnOk Tryz.func68 Tryz.call68 (by kernel_rfl)) (Tr.every_node (fnOk Tryz.func132 Tryz.call132 (by kernel_rfl)) Tr.every_leaf Tr.every_leaf) Tr.every_leaf) (Tr.every_node (fnOk Tryz.func100 Tryz.call100 (by kernel_rfl)) (Tr.every_node noFn Tr.every_leaf Tr.every_leaf) Tr.every_leaf)) (Tr.every_node (fnOk Tryz.func52 Tryz.call52 (by kernel_rfl)) (Tr.every_node (fnOk Tryz.func84 Tryz.call84 (by kernel_rfl)) (Tr.every_node noFn Tr.every_leaf Tr.every_leaf) Tr.every_leaf) (Tr.every_node noFn (Tr.every_node noFn Tr.every_leaf Tr.every_leaf) Tr.every_leaf))) (Tr.every_node (fnOk Tryz.func28 Tryz.call28 (by kernel_rfl)) (Tr.every_node (fnOk Tryz.func44 Tryz.call44 (by kernel_rfl)) (Tr.every_node (fnOk Tryz.func76 Tryz.call76 (by kernel_rfl)) (Tr.every_node noFn Tr.every_leaf Tr.every_leaf) Tr.every_leaf) (Tr.every_node noFn (Tr.every_node noFn Tr.every_leaf Tr.every_leaf) Tr.every_leaf)) (Tr.every_node (fnOk Tryz.func60 Tryz.call60 (by kernel_rfl)) (Tr.every_node (fnOk Tryz.func92 Tryz.call92 (by kernel_rfl)) (Tr.every_node noFn Tr.every_leaf Tr.every_leaf) Tr.every_leaf) (Tr.every_node noFn (Tr.every_node noFn Tr.every_leaf Tr.every_leaf) Tr.every_leaf))))) (Tr.every_node (fnOk Tryz.func6 Tryz.call6 (by kernel_rfl)) (Tr.every_node (fnOk Tryz.func10 Tryz.call10 (by kernel_rfl)) (Tr.every_node (fnOk Tryz.func18 Tryz.call18 (by kernel_rfl)) (Tr.every_node (fnOk Tryz.func34 Tryz.call34 (by kernel_rfl)) (Tr.every_node (fnOk Tryz.func66 Tryz.call66 (by kernel_rfl)) (Tr.every_node noFn Tr.every_leaf Tr.every_leaf) Tr.every_leaf) (Tr.every_node noFn (Tr.every_node noFn Tr.every_leaf Tr.every_leaf) Tr.every_leaf)) (Tr.every_node (fnOk Tryz.func50 Tryz.call50 (by kernel_rfl)) (Tr.every_node (fnOk Tryz.func82 Tryz.call82 (by kernel_rfl)) (Tr.every_node noFn Tr.every_leaf Tr.every_leaf) Tr.every_leaf) (Tr.every_node noFn (Tr.every_node noFn Tr.every_leaf Tr.every_leaf) Tr.every_leaf))) (Tr.every_node (fnOk Tryz.func26 Tryz.call26 (by kernel_rfl)) (Tr.every_node (fnOk Tryz.func42 Tryz.call42 (by kernel_rfl)) (Tr.every_node (fnOk Tryz.func74 Tryz.call74 (by kernel_rfl)) (Tr.every_node noFn Tr.every_leaf Tr.every_leaf) Tr.every_leaf) (Tr.every_node noFn (Tr.every_node noFn Tr.every_leaf Tr.every_leaf) Tr.every_leaf)) (Tr.every_node (fnOk Tryz.func58 Tryz.call58 (by kernel_rfl)) (Tr.every_node noFn (Tr.every_node noFn Tr.every_leaf Tr.every_leaf) Tr.every_leaf) (Tr.every_node (fnOk Tryz.func122 Tryz.call122 (by kernel_rfl)) (Tr.every_node noFn Tr.every_leaf Tr.every_leaf) Tr.every_leaf)))) (Tr.every_node (fnOk Tryz.func14 Tryz.call14 (by kernel_rfl)) (Tr.every_node (fnOk Tryz.func22 Tryz.call22 (by kernel_rfl)) (Tr.every_node (fnOk Tryz.func38 Tryz.call38 (by kernel_rfl)) (Tr.every_node (fnOk Tryz.func70 Tryz.call70 (by kernel_rfl)) (Tr.every_node noFn Tr.every_leaf Tr.every_leaf) Tr.every_leaf) (Tr.every_node (fnOk Tryz.func102 Tryz.call102 (by kernel_rfl)) (Tr.every_node noFn Tr.every_leaf Tr.every_leaf) Tr.every_leaf)) (Tr.every_node (fnOk Tryz.func54 Tryz.call54 (by kernel_rfl)) (Tr.every_node (fnOk Tryz.func86 Tryz.call86 (by kernel_rfl)) (Tr.every_node noFn Tr.every_leaf Tr.every_leaf) Tr.every_leaf) (Tr.every_node noFn (Tr.every_node noFn Tr.every_leaf Tr.every_leaf) Tr.every_leaf))) (Tr.every_node (fnOk Tryz.func30 Tryz.call30 (by kernel_rfl)) (Tr.every_node (fnOk Tryz.func46 Tryz.call46 (by kernel_rfl)) (Tr.every_node (fnOk Tryz.func78 Tryz.call78 (by kernel_rfl)) (Tr.every_node noFn Tr.every_leaf Tr.every_leaf) Tr.every_leaf) (Tr.every_node noFn (Tr.every_node noFn Tr.every_leaf Tr.every_leaf) Tr.every_leaf)) (Tr.every_node (fnOk Tryz.func62 Tryz.call62 (by kernel_rfl)) (Tr.every_node noFn (Tr.every_node noFn Tr.every_leaf Tr.every_leaf) Tr.every_leaf) (Tr.every_node noFn (Tr.every_node noFn Tr.every_leaf Tr.every_leaf) Tr.every_leaf)))))))
noncomputable def vP : Tr Prim := (.node none (.node none (.node none (.node none (.node none (.node none (.node none (.node none .leaf .leaf) .leaf) (.node none (.node none .leaf .leaf) .leaf)) (.node none (.node none (.node none .leaf .leaf) .leaf) (.node none (.node none .leaf .leaf) .leaf))) (.node none (.node none (.node none (.node none .leaf .leaf) .leaf) (.node none (.node none .leaf .leaf) .leaf)) (.node none (.node none (.node none .leaf .leaf) .leaf) (.node none (.node none .leaf .leaf) .leaf)))) (.node none (.node none (.node none (.node none (.node none .leaf .leaf) .leaf) (.node none (.node none .leaf .leaf) .leaf)) (.node none (.node none (.node none .leaf .leaf) .leaf) (.node none (.node none .leaf .leaf) .leaf))) (.node none (.node none (.node none (.node none .leaf .leaf) .leaf) (.node none (.node none .leaf .leaf) .leaf)) (.node none (.node (some (.lib libTrimLeft)) (.node none .leaf .leaf) .leaf) (.node (some (.copyCheck [(174, 2, 0), (175, 2, 0)])) (.node none .leaf .leaf) .leaf))))) (.node none (.node none (.node none (.node none (.node (some (.lib libValid)) (.node none .leaf .leaf) .leaf) (.node none (.node none .leaf .leaf) .leaf)) (.node none (.node none (.node none .leaf .leaf) .leaf) (.node none (.node none .leaf .leaf) .leaf))) (.node none (.node none (.node none (.node none .leaf .leaf) .leaf) (.node (some (.builderString 5)) (.node none .leaf .leaf) .leaf)) (.node none (.node none (.node none .leaf .leaf) .leaf) (.node none (.node none .leaf .leaf) .leaf)))) (.node none (.node none (.node none (.node (some (.lib (libAtoi 191))) (.node none .leaf .leaf) .leaf) (.node none (.node none .leaf .leaf) .leaf)) (.node none (.node none (.node none .leaf .leaf) .leaf) (.node (some .indexByte) (.node none .leaf .leaf) .leaf))) (.node none (.node none (.node none (.node none .leaf .leaf) .leaf) (.node none (.node none .leaf .leaf) .leaf)) (.node none (.node none (.node none .leaf .leaf) .leaf) (.node none (.node none .leaf .leaf) .leaf)))))) (.node none (.node none (.node none (.node none (.node none (.node none (.node none .leaf .leaf) .leaf) (.node none (.node none .leaf .leaf) .leaf)) (.node none (.node none (.node none .leaf .leaf) .leaf) (.node none (.node none .leaf .leaf) .leaf))) (.node none (.node none (.node none (.node none .leaf .leaf) .leaf) (.node none (.node none .leaf .leaf) .leaf)) (.node none (.node none (.node none .leaf .leaf) .leaf) (.node none (.node none .leaf .leaf) .leaf)))) (.node none (.node none (.node none (.node none (.node none .leaf .leaf) .leaf) (.node none (.node none .leaf .leaf) .leaf)) (.node none (.node none (.node none .leaf .leaf) .leaf) (.node none (.node none .leaf .leaf) .leaf))) (.node none (.node none (.node none (.node none .leaf .leaf) .leaf) (.node none (.node none .leaf .leaf) .leaf)) (.node none (.node none (.node none .leaf .leaf) .leaf) (.node none (.node none .leaf .leaf) .leaf))))) (.node none (.node none (.node none (.node none (.node none (.node none .leaf .leaf) .leaf) (.node (some (.lib libDecode)) (.node none .leaf .leaf) .leaf)) (.node none (.node none (.node none .leaf .leaf) .leaf) (.node none (.node none .leaf .leaf) .leaf))) (.node none (.node none (.node none (.node none .leaf .leaf) .leaf) (.node none (.node none .leaf .leaf) .leaf)) (.node none (.node none (.node none .leaf .leaf) .leaf) (.node none (.node none .leaf .leaf) .leaf)))) (.node none (.node none (.node none (.node none (.node none .leaf .leaf) .leaf) (.node none (.node none .leaf .leaf) .leaf)) (.node none (.node none (.node none .leaf .leaf) .leaf) (.node none (.node none .leaf .leaf) .leaf))) (.node none (.node none (.node none (.node none .leaf .leaf) .leaf) (.node none (.node none .leaf .leaf) .leaf)) (.node none (.node none (.node none .leaf .leaf) .leaf) (.node none (.node none .leaf .leaf) .leaf)))))))
noncomputable def vG : Tr (List AV) := (.node (some [(.int .u8 (240)), (.int .u8 (240)), (.int .u8 (240)), (.int .u8 (240)), (.int .u8 (240)), (.int .u8 (240)), (.int .u8 (240)), (.int .u8 (240)), (.int .u8 (240)), (.int .u8 (240)), (.int .u8 (240)), (.int .u8 (240)), (.int .u8 (240)), (.int .u8 (240)), (.int .u8 (240)), (.int .u8 (240)), (.int .u8 (240)), (.int .u8 (240)), (.int .u8 (240)), (.int .u8 (240)), (.int .u8 (240)), (.int .u8 (240)), (.int .u8 (240)), (.int .u8 (240)), (.int .u8 (240)), (.int .u8 (240)), (.int .u8 (240)), (.int .u8 (240)), (.int .u8 (240)), (.int .u8 (240)), (.int .u8 (240)), (.int .u8 (240)), (.int .u8 (240)), (.int .u8 (240)), (.int .u8 (240)), (.int .u8 (240)), (.int .u8 (240)), (.int .u8 (240)), (.int .u8 (240)), (.int .u8 (240)), (.int .u8 (240)), (.int .u8 (240)), (.int .u8 (240)), (.int .u8 (240)), (.int .u8 (240)), (.int .u8 (240)), (.int .u8 (240)), (.int .u8 (240)), (.int .u8 (240)), (.int .u8 (240)), (.int .u8 (240)), (.int .u8 (240)), (.int .u8 (240)), (.int .u8 (240)), (.int .u8 (240)), (.int .u8 (240)), (.int .u8 (240)), (.int .u8 (240)), (.int .u8 (240)), (.int .u8 (240)), (.int .u8 (240)), (.int .u8 (240)), (.int .u8 (240)), (.int .u8 (240)), (.int .u8 (240)), (.int .u8 (240)), (.int .u8 (240)), (.int .u8 (240)), (.int .u8 (240)), (.int .u8 (240)), (.int .u8 (240)), (.int .u8 (240)), (.int .u8 (240)), (.int .u8 (240)), (.int .u8 (240)), (.int .u8 (240)), (.int .u8 (240)), (.int .u8 (240)), (.int .u8 (240)), (.int .u8 (240)), (.int .u8 (240)), (.int .u8 (240)), (.int .u8 (240)), (.int .u8 (240)), (.int .u8 (240)), (.int .u8 (240)), (.int .u8 (240)), (.int .u8 (240)), (.int .u8 (240)), (.int .u8 (240)), (.int .u8 (240)), (.int .u8 (240)), (.int .u8 (240)), (.int .u8 (240)), (.int .u8 (240)), (.int .u8 (240)), (.int .u8 (240)), (.int .u8 (240)), (.int .u8 (240)), (.int .u8 (240)), (.int .u8 (240)), (.int .u8 (240)), (.int .u8 (240)), (.int .u8 (240)), (.int .u8 (240)), (.int .u8 (240)), (.int .u8 (240)), (.int .u8 (240)), (.int .u8 (240)), (.int .u8 (240)), (.int .u8 (240)), (.int .u8 (240)), (.int .u8 (240)), (.int .u8 (240)), (.int .u8 (240)), (.int .u8 (240)), (.int .u8 (240)), (.int .u8 (240)), (.int .u8 (240)), (.int .u8 (240)), (.int .u8 (240)), (.int .u8 (240)), (.int .u8 (240)), (.int .u8 (240)), (.int .u8 (240)), (.int .u8 (240)), (.int .u8 (240)), (.int .u8 (240)), (.int .u8 (241)), (.int .u8 (241)), (.int .u8 (241)), (.int .u8 (241)), (.int .u8 (241)), (.int .u8 (241)), (.int .u8 (241)), (.int .u8 (241)), (.int .u8 (241)), (.int .u8 (241)), (.int .u8 (241)), (.int .u8 (241)), (.int .u8 (241)), (.int .u8 (241)), (.int .u8 (241)), (.int .u8 (241)), (.int .u8 (241)), (.int .u8 (241)), (.int .u8 (241)), (.int .u8 (241)), (.int .u8 (241)), (.int .u8 (241)), (.int .u8 (241)), (.int .u8 (241)), (.int .u8 (241)), (.int .u8 (241)), (.int .u8 (241)), (.int .u8 (241)), (.int .u8 (241)), (.int .u8 (241)), (.int .u8 (241)), (.int .u8 (241)), (.int .u8 (241)), (.int .u8 (241)), (.int .u8 (241)), (.int .u8 (241)), (.int .u8 (241)), (.int .u8 (241)), (.int .u8 (241)), (.int .u8 (241)), (.int .u8 (241)), (.int .u8 (241)), (.int .u8 (241)), (.int .u8 (241)), (.int .u8 (241)), (.int .u8 (241)), (.int .u8 (241)), (.int .u8 (241)), (.int .u8 (241)), (.int .u8 (241)), (.int .u8 (241)), (.int .u8 (241)), (.int .u8 (241)), (.int .u8 (241)), (.int .u8 (241)), (.int .u8 (241)), (.int .u8 (241)), (.int .u8 (241)), (.int .u8 (241)), (.int .u8 (241)), (.int .u8 (241)), (.int .u8 (241)), (.int .u8 (241)), (.int .u8 (241)), (.int .u8 (241)), (.int .u8 (241)), (.int .u8 (2)), (.int .u8 (2)), (.int .u8 (2)), (.int .u8 (2)), (.int .u8 (2)), (.int .u8 (2)), (.int .u8 (2)), (.int .u8 (2)), (.int .u8 (2)), (.int .u8 (2)), (.int .u8 (2)), (.int .u8 (2)), (.int .u8 (2)), (.int .u8 (2)), (.int .u8 (2)), (.int .u8 (2)), (.int .u8 (2)), (.int .u8 (2)), (.int .u8 (2)), (.int .u8 (2)), (.int .u8 (2)), (.int .u8 (2)), (.int .u8 (2)), (.int .u8 (2)), (.int .u8 (2)), (.int .u8 (2)), (.int .u8 (2)), (.int .u8 (2)), (.int .u8 (2)), (.int .u8 (2)), (.int .u8 (19)), (.int .u8 (3)), (.int .u8 (3)), (.int .u8 (3)), (.int .u8 (3)), (.int .u8 (3)), (.int .u8 (3)), (.int .u8 (3)), (.int .u8 (3)), (.int .u8 (3)), (.int .u8 (3)), (.int .u8 (3)), (.int .u8 (3)), (.int .u8 (35)), (.int .u8 (3)), (.int .u8 (3)), (.int .u8 (52)), (.int .u8 (4)), (.int .u8 (4)), (.int .u8 (4)), (.int .u8 (68)), (.int .u8 (241)), (.int .u8 (241)), (.int .u8 (241)), (.int .u8 (241)), (.int .u8 (241)), (.int .u8 (241)), (.int .u8 (241)), (.int .u8 (241)), (.int .u8 (241)), (.int .u8 (241)), (.int .u8 (241))]) (.node (some [(.int .u8 (128)), (.int .u8 (191)), (.int .u8 (160)), (.int .u8 (191)), (.int .u8 (128)), (.int .u8 (159)), (.int .u8 (144)), (.int .u8 (191)), (.int .u8 (128)), (.int .u8 (143)), (.int .u8 (0)), (.int .u8 (0)), (.int .u8 (0)), (.int .u8 (0)), (.int .u8 (0)), (.int .u8 (0)), (.int .u8 (0)), (.int .u8 (0)), (.int .u8 (0)), (.int .u8 (0)), (.int .u8 (0)), (.int .u8 (0)), (.int .u8 (0)), (.int .u8 (0)), (.int .u8 (0)), (.int .u8 (0)), (.int .u8 (0)), (.int .u8 (0)), (.int .u8 (0)), (.int .u8 (0)), (.int .u8 (0)), (.int .u8 (0))]) (.node none (.node none .leaf .leaf) .leaf) (.node (some [(.opq true)]) (.node none .leaf .leaf) .leaf)) (.node (some [(.int .u8 (0)), (.int .u8 (0)), (.int .u8 (0)), (.int .u8 (0)), (.int .u8 (0)), (.int .u8 (0)), (.int .u8 (0)), (.int .u8 (0)), (.int .u8 (0)), (.int .u8 (1)), (.int .u8 (1)), (.int .u8 (1)), (.int .u8 (1)), (.int .u8 (1)), (.int .u8 (0)), (.int .u8 (0)), (.int .u8 (0)), (.int .u8 (0)), (.int .u8 (0)), (.int .u8 (0)), (.int .u8 (0)), (.int .u8 (0)), (.int .u8 (0)), (.int .u8 (0)), (.int .u8 (0)), (.int .u8 (0)), (.int .u8 (0)), (.int .u8 (0)), (.int .u8 (0)), (.int .u8 (0)), (.int .u8 (0)), (.int .u8 (0)), (.int .u8 (1)), (.int .u8 (0)), (.int .u8 (0)), (.int .u8 (0)), (.int .u8 (0)), (.int .u8 (0)), (.int .u8 (0)), (.int .u8 (0)), (.int .u8 (0)), (.int .u8 (0)), (.int .u8 (0)), (.int .u8 (0)), (.int .u8 (0)), (.int .u8 (0)), (.int .u8 (0)), (.int .u8 (0)), (.int .u8 (0)), (.int .u8 (0)), (.int .u8 (0)), (.int .u8 (0)), (.int .u8 (0)), (.int .u8 (0)), (.int .u8 (0)), (.int .u8 (0)), (.int .u8 (0)), (.int .u8 (0)), (.int .u8 (0)), (.int .u8 (0)), (.int .u8 (0)), (.int .u8 (0)), (.int .u8 (0)), (.int .u8 (0)), (.int .u8 (0)), (.int .u8 (0)), (.int .u8 (0)), (.int .u8 (0)), (.int .u8 (0)), (.int .u8 (0)), (.int .u8 (0)), (.int .u8 (0)), (.int .u8 (0)), (.int .u8 (0)), (.int .u8 (0)), (.int .u8 (0)), (.int .u8 (0)), (.int .u8 (0)), (.int .u8 (0)), (.int .u8 (0)), (.int .u8 (0)), (.int .u8 (0)), (.int .u8 (0)), (.int .u8 (0)), (.int .u8 (0)), (.int .u8 (0)), (.int .u8 (0)), (.int .u8 (0)), (.int .u8 (0)), (.int .u8 (0)), (.int .u8 (0)), (.int .u8 (0)), (.int .u8 (0)), (.int .u8 (0)), (.int .u8 (0)), (.int .u8 (0)), (.int .u8 (0)), (.int .u8 (0)), (.int .u8 (0)), (.int .u8 (0)), (.int .u8 (0)), (.int .u8 (0)), (.int .u8 (0)), (.int .u8 (0)), (.int .u8 (0)), (.int .u8 (0)), (.int .u8 (0)), (.int .u8 (0)), (.int .u8 (0)), (.int .u8 (0)), (.int .u8 (0)), (.int .u8 (0)), (.int .u8 (0)), (.int .u8 (0)), (.int .u8 (0)), (.int .u8 (0)), (.int .u8 (0)), (.int .u8 (0)), (.int .u8 (0)), (.int .u8 (0)), (.int .u8 (0)), (.int .u8 (0)), (.int .u8 (0)), (.int .u8 (0)), (.int .u8 (0)), (.int .u8 (0)), (.int .u8 (0)), (.int .u8 (0)), (.int .u8 (0)), (.int .u8 (0)), (.int .u8 (0)), (.int .u8 (0)), (.int .u8 (0)), (.int .u8 (0)), (.int .u8 (0)), (.int .u8 (0)), (.int .u8 (0)), (.int .u8 (0)), (.int .u8 (0)), (.int .u8 (0)), (.int .u8 (0)), (.int .u8 (0)), (.int .u8 (0)), (.int .u8 (0)), (.int .u8 (0)), (.int .u8 (0)), (.int .u8 (0)), (.int .u8 (0)), (.int .u8 (0)), (.int .u8 (0)), (.int .u8 (0)), (.int .u8 (0)), (.int .u8 (0)), (.int .u8 (0)), (.int .u8 (0)), (.int .u8 (0)), (.int .u8 (0)), (.int .u8 (0)), (.int .u8 (0)), (.int .u8 (0)), (.int .u8 (0)), (.int .u8 (0)), (.int .u8 (0)), (.int .u8 (0)), (.int .u8 (0)), (.int .u8 (0)), (.int .u8 (0)), (.int .u8 (0)), (.int .u8 (0)), (.int .u8 (0)), (.int .u8 (0)), (.int .u8 (0)), (.int .u8 (0)), (.int .u8 (0)), (.int .u8 (0)), (.int .u8 (0)), (.int .u8 (0)), (.int .u8 (0)), (.int .u8 (0)), (.int .u8 (0)), (.int .u8 (0)), (.int .u8 (0)), (.int .u8 (0)), (.int .u8 (0)), (.int .u8 (0)), (.int .u8 (0)), (.int .u8 (0)), (.int .u8 (0)), (.int .u8 (0)), (.int .u8 (0)), (.int .u8 (0)), (.int .u8 (0)), (.int .u8 (0)), (.int .u8 (0)), (.int .u8 (0)), (.int .u8 (0)), (.int .u8 (0)), (.int .u8 (0)), (.int .u8 (0)), (.int .u8 (0)), (.int .u8 (0)), (.int .u8 (0)), (.int .u8 (0)), (.int .u8 (0)), (.int .u8 (0)), (.int .u8 (0)), (.int .u8 (0)), (.int .u8 (0)), (.int .u8 (0)), (.int .u8 (0)), (.int .u8 (0)), (.int .u8 (0)), (.int .u8 (0)), (.int .u8 (0)), (.int .u8 (0)), (.int .u8 (0)), (.int .u8 (0)), (.int .u8 (0)), (.int .u8 (0)), (.int .u8 (0)), (.int .u8 (0)), (.int .u8 (0)), (.int .u8 (0)), (.int .u8 (0)), (.int .u8 (0)), (.int .u8 (0)), (.int .u8 (0)), (.int .u8 (0)), (.int .u8 (0)), (.int .u8 (0)), (.int .u8 (0)), (.int .u8 (0)), (.int .u8 (0)), (.int .u8 (0)), (.int .u8 (0)), (.int .u8 (0)), (.int .u8 (0)), (.int .u8 (0)), (.int .u8 (0)), (.int .u8 (0)), (.int .u8 (0)), (.int .u8 (0)), (.int .u8 (0)), (.int .u8 (0)), (.int .u8 (0)), (.int .u8 (0)), (.int .u8 (0)), (.int .u8 (0)), (.int .u8 (0)), (.int .u8 (0)), (.int .u8 (0)), (.int .u8 (0)), (.int .u8 (0)), (.int .u8 (0)), (.int .u8 (0)), (.int .u8 (0))]) (.node none (.node none .leaf .leaf) .leaf) (.node none (.node none .leaf .leaf) .leaf)))
noncomputable def vI : Tr (List Nat) := (.node none (.node none (.node none (.node none (.node (some [29]) (.node none (.node none (.node none .leaf .leaf) .leaf) (.node none (.node none .leaf .leaf) .leaf)) (.node none (.node none (.node none .leaf .leaf) .leaf) (.node none (.node none .leaf .leaf) .leaf))) (.node (some [63]) (.node (some [82]) (.node none (.node none .leaf .leaf) .leaf) (.node none (.node none .leaf .leaf) .leaf)) (.node none (.node none (.node none .leaf .leaf) .leaf) (.node none (.node none .leaf .leaf) .leaf)))) (.node (some [29]) (.node (some [29]) (.node none (.node none (.node none .leaf .leaf) .leaf) (.node none (.node none .leaf .leaf) .leaf)) (.node none (.node none (.node none .leaf .leaf) .leaf) (.node none (.node none .leaf .leaf) .leaf))) (.node (some [88]) (.node (some [82]) (.node none (.node none .leaf .leaf) .leaf) (.node none (.node none .leaf .leaf) .leaf)) (.node none (.node none (.node none .leaf .leaf) .leaf) (.node none (.node none .leaf .leaf) .leaf))))) (.node none (.node none (.node none (.node none (.node none (.node none .leaf .leaf) .leaf) (.node none (.node none .leaf .leaf) .leaf)) (.node none (.node none (.node none .leaf .leaf) .leaf) (.node none (.node none .leaf .leaf) .leaf))) (.node none (.node none (.node (some [79]) (.node none .leaf .leaf) .leaf) (.node none (.node none .leaf .leaf) .leaf)) (.node none (.node (some [1000060, 1000061]) (.node none .leaf .leaf) .leaf) (.node none (.node none .leaf .leaf) .leaf)))) (.node none (.node none (.node none (.node none (.node none .leaf .leaf) .leaf) (.node none (.node none .leaf .leaf) .leaf)) (.node none (.node none (.node none .leaf .leaf) .leaf) (.node none (.node none .leaf .leaf) .leaf))) (.node (some [88]) (.node none (.node none (.node none .leaf .leaf) .leaf) (.node none (.node none .leaf .leaf) .leaf)) (.node (some [88]) (.node none (.node none .leaf .leaf) .leaf) (.node none (.node none .leaf .leaf) .leaf)))))) (.node none (.node none (.node none (.node (some [29]) (.node (some [63]) (.node none (.node none .leaf .leaf) .leaf) (.node none (.node none .leaf .leaf) .leaf)) (.node none (.node none (.node none .leaf .leaf) .leaf) (.node none (.node none .leaf .leaf) .leaf))) (.node none (.node (some [82]) (.node none (.node none .leaf .leaf) .leaf) (.node none (.node none .leaf .leaf) .leaf)) (.node none (.node none (.node none .leaf .leaf) .leaf) (.node none (.node none .leaf .leaf) .leaf)))) (.node none (.node none (.node none (.node none (.node none .leaf .leaf) .leaf) (.node none (.node none .leaf .leaf) .leaf)) (.node none (.node none (.node none .leaf .leaf) .leaf) (.node none (.node none .leaf .leaf) .leaf))) (.node none (.node (some [79]) (.node none (.node none .leaf .leaf) .leaf) (.node none (.node none .leaf .leaf) .leaf)) (.node none (.node none (.node none .leaf .leaf) .leaf) (.node none (.node none .leaf .leaf) .leaf))))) (.node (some [3000053]) (.node (some [41]) (.node (some [29]) (.node none (.node none (.node none .leaf .leaf) .leaf) (.node none (.node none .leaf .leaf) .leaf)) (.node none (.node none (.node none .leaf .leaf) .leaf) (.node none (.node none .leaf .leaf) .leaf))) (.node (some [82]) (.node (some [88]) (.node none (.node none .leaf .leaf) .leaf) (.node none (.node none .leaf .leaf) .leaf)) (.node none (.node none (.node none .leaf .leaf) .leaf) (.node none (.node none .leaf .leaf) .leaf)))) (.node none (.node none (.node none (.node none (.node none .leaf .leaf) .leaf) (.node none (.node none .leaf .leaf) .leaf)) (.node none (.node none (.node none .leaf .leaf) .leaf) (.node none (.node none .leaf .leaf) .leaf))) (.node none (.node (some [101]) (.node none (.node none .leaf .leaf) .leaf) (.node none (.node none .leaf .leaf) .leaf)) (.node (some [79]) (.node none (.node none .leaf .leaf) .leaf) (.node none (.node none .leaf .leaf) .leaf)))))))
noncomputable def vfull : List Nat := [41, 81]
noncomputable def vlook : List Nat := [34]
theorem prim65 : OnePrim Tryz.prog vT (fun b => vG.get b) 65 (.lib libValid) := valid_prim (g3 := 0) (g4 := 1) Tryz.call65 (fun s w h hT => Tryz.utf8_ValidString s w h hT) rfl rfl (by kernel_rfl) (by kernel_rfl)
theorem prim69 : OnePrim Tryz.prog vT (fun b => vG.get b) 69 (.lib (libAtoi 191)) := atoi_prim (g16 := 5) (fun w w' h => by rcases h with rfl | ⟨t, rfl⟩; exact Go.RowKit.Below.refl _ _; exact Lib.bytesWorld_below _ _ _) Tryz.call69 (fun s h1 v h2 w => Tryz.strconv_Atoi_ok s h1 v h2 w) (fun s h1 h2 ev w h3 h4 => (Tryz.strconv_Atoi_range s h1 h2 ev w h3 h4).mono fun e w' ⟨N, e1, _, _, e2⟩ => ⟨N, e1, e2⟩) rfl
theorem prim91 : OnePrim Tryz.prog vT (fun b => vG.get b) 91 (.lib libTrimLeft) := trimLeft_prim Tryz.call91 fun s c w h1 h2 => Tryz.strings_TrimLeft s c w h1 h2
theorem prim98 : OnePrim Tryz.prog vT (fun b => vG.get b) 98 (.lib libDecode) := decode_prim (g3 := 0) (g4 := 1) Tryz.call98 (fun s w hT => Tryz.utf8_DecodeRuneInString s w hT) rfl rfl (by kernel_rfl) (by kernel_rfl)
theorem prim105 : OnePrim Tryz.prog vT (fun b => vG.get b) 105 (.builderString 5) := builderString_prim ⟨Tryz.call105, size_of (by kernel_rfl), run_string_nil, run_string⟩
theorem prim117 : OnePrim Tryz.prog vT (fun b => vG.get b) 117 .indexByte := indexByte_prim (fun s c w => by
  rw [run_callFunc_extern Tryz.func117 (by kernel_rfl) (by kernel_rfl) (by kernel_rfl) (e := Extern.BytealgIndexByte.indexByte) (by kernel_rfl), Lib.run_indexByteString]
  rfl)
theorem prim123 : OnePrim Tryz.prog vT (fun b => vG.get b) 123 (.copyCheck [(174, 2, 0), (175, 2, 0)]) := copyCheck_prim ⟨Tryz.call123, run_used, fun b o w e n h1 h2 h3 h4 h5 => run_fresh b o w e n h1 h2 h3 h4 (lies_of (by kernel_rfl) h5)⟩
theorem vP_ok : Tr.Every (fun f q => OnePrim Tryz.prog vT (fun b => vG.get b) f q) vP := (Tr.every_node noPrim (Tr.every_node noPrim (Tr.every_node noPrim (Tr.every_node noPrim (Tr.every_node noPrim (Tr.every_node noPrim (Tr.every_node noPrim (Tr.every_node noPrim Tr.every_leaf Tr.every_leaf) Tr.every_leaf) (Tr.every_node noPrim (Tr.every_node noPrim Tr.every_leaf Tr.every_leaf) Tr.every_leaf)) (Tr.every_node noPrim (Tr.every_node noPrim (Tr.every_node noPrim Tr.every_leaf Tr.every_leaf) Tr.every_leaf) (Tr.every_node noPrim (Tr.every_node noPrim Tr.every_leaf Tr.every_leaf) Tr.every_leaf))) (Tr.every_node noPrim (Tr.every_node noPrim (Tr.every_node noPrim (Tr.every_node noPrim Tr.every_leaf Tr.every_leaf) Tr.every_leaf) (Tr.every_node noPrim (Tr.every_node noPrim Tr.every_leaf Tr.every_leaf) Tr.every_leaf)) (Tr.every_node noPrim (Tr.every_node noPrim (Tr.every_node noPrim Tr.every_leaf Tr.every_leaf) Tr.every_leaf) (Tr.every_node noPrim (Tr.every_node noPrim Tr.every_leaf Tr.every_leaf) Tr.every_leaf)))) (Tr.every_node noPrim (Tr.every_node noPrim (Tr.every_node noPrim (Tr.every_node noPrim (Tr.every_node noPrim Tr.every_leaf Tr.every_leaf) Tr.every_leaf) (Tr.every_node noPrim (Tr.every_node noPrim Tr.every_leaf Tr.every_leaf) Tr.every_leaf)) (Tr.every_node noPrim (Tr.every_node noPrim (Tr.every_node noPrim Tr.every_leaf Tr.every_leaf) Tr.every_leaf) (Tr.every_node noPrim (Tr.every_node noPrim Tr.every_leaf Tr.every_leaf) Tr.every_leaf))) (Tr.every_node noPrim (Tr.every_node noPrim (Tr.every_node noPrim (Tr.every_node noPrim Tr.every_leaf Tr.every_leaf) Tr.every_leaf) (Tr.every_node noPrim (Tr.every_node noPrim Tr.every_leaf Tr.every_leaf) Tr.every_leaf)) (Tr.every_node noPrim (Tr.every_node (onePrim prim91) (Tr.every_node noPrim Tr.every_leaf Tr.every_leaf) Tr.every_leaf) (Tr.every_node (onePrim prim123) (Tr.every_node noPrim Tr.every_leaf Tr.every_leaf) Tr.every_leaf))))) (Tr.every_node noPrim (Tr.every_node noPrim (Tr.every_node noPrim (Tr.every_node noPrim (Tr.every_node (onePrim prim65) (Tr.every_node noPrim Tr.every_leaf Tr.every_leaf) Tr.every_leaf) (Tr.every_node noPrim (Tr.every_node noPrim Tr.every_leaf Tr.every_leaf) Tr.every_leaf)) (Tr.every_node noPrim (Tr.every_node noPrim (Tr.every_node noPrim Tr.every_leaf Tr.every_leaf) Tr.every_leaf) (Tr.every_node noPrim (Tr.every_node noPrim Tr.every_leaf Tr.every_leaf) Tr.every_leaf))) (Tr.every_node noPrim (Tr.every_node noPrim (Tr.every_node noPrim (Tr.every_node noPrim Tr.every_leaf Tr.every_leaf) Tr.every_leaf) (Tr.every_node (onePrim prim105) (Tr.every_node noPrim Tr.every_leaf Tr.every_leaf) Tr.every_leaf)) (Tr.every_node noPrim (Tr.every_node noPrim (Tr.every_node noPrim Tr.every_leaf Tr.every_leaf) Tr.every_leaf) (Tr.every_node noPrim (Tr.every_node noPrim Tr.every_leaf Tr.every_leaf) Tr.every_leaf)))) (Tr.every_node noPrim (Tr.every_node noPrim (Tr.every_node noPrim (Tr.every_node (onePrim prim69) (Tr.every_node noPrim Tr.every_leaf Tr.every_leaf) Tr.every_leaf) (Tr.every_node noPrim (Tr.every_node noPrim Tr.every_leaf Tr.every_leaf) Tr.every_leaf)) (Tr.every_node noPrim (Tr.every_node noPrim (Tr.every_node noPrim Tr.every_leaf Tr.every_leaf) Tr.every_leaf) (Tr.every_node (onePrim prim117) (Tr.every_node noPrim Tr.every_leaf Tr.every_leaf) Tr.every_leaf))) (Tr.every_node noPrim (Tr.every_node noPrim (Tr.every_node noPrim (Tr.every_node noPrim Tr.every_leaf Tr.every_leaf) Tr.every_leaf) (Tr.every_node noPrim (Tr.every_node noPrim Tr.every_leaf Tr.every_leaf) Tr.every_leaf)) (Tr.every_node noPrim (Tr.every_node noPrim (Tr.every_node noPrim Tr.every_leaf Tr.every_leaf) Tr.every_leaf) (Tr.every_node noPrim (Tr.every_node noPrim Tr.every_leaf Tr.every_leaf) Tr.every_leaf)))))) (Tr.every_node noPrim (Tr.every_node noPrim (Tr.every_node noPrim (Tr.every_node noPrim (Tr.every_node noPrim (Tr.every_node noPrim (Tr.every_node noPrim Tr.every_leaf Tr.every_leaf) Tr.every_leaf) (Tr.every_node noPrim (Tr.every_node noPrim Tr.every_leaf Tr.every_leaf) Tr.every_leaf)) (Tr.every_node noPrim (Tr.every_node noPrim (Tr.every_node noPrim Tr.every_leaf Tr.every_leaf) Tr.every_leaf) (Tr.every_node noPrim (Tr.every_node noPrim Tr.every_leaf Tr.every_leaf) Tr.every_leaf))) (Tr.every_node noPrim (Tr.every_node noPrim (Tr.every_node noPrim (Tr.every_node noPrim Tr.every_leaf Tr.every_leaf) Tr.every_leaf) (Tr.every_node noPrim (Tr.every_node noPrim Tr.every_leaf Tr.every_leaf) Tr.every_leaf)) (Tr.every_node noPrim (Tr.every_node noPrim (Tr.every_node noPrim Tr.every_leaf Tr.every_leaf) Tr.every_leaf) (Tr.every_node noPrim (Tr.every_node noPrim Tr.every_leaf Tr.every_leaf) Tr.every_leaf)))) (Tr.every_node noPrim (Tr.every_node noPrim (Tr.every_node noPrim (Tr.every_node noPrim (Tr.every_node noPrim Tr.every_leaf Tr.every_leaf) Tr.every_leaf) (Tr.every_node noPrim (Tr.every_node noPrim Tr.every_leaf Tr.every_leaf) Tr.every_leaf)) (Tr.every_node noPrim (Tr.every_node noPrim (Tr.every_node noPrim Tr.every_leaf Tr.every_leaf) Tr.every_leaf) (Tr.every_node noPrim (Tr.every_node noPrim Tr.every_leaf Tr.every_leaf) Tr.every_leaf))) (Tr.every_node noPrim (Tr.every_node noPrim (Tr.every_node noPrim (Tr.every_node noPrim Tr.every_leaf Tr.every_leaf) Tr.every_leaf) (Tr.every_node noPrim (Tr.every_node noPrim Tr.every_leaf Tr.every_leaf) Tr.every_leaf)) (Tr.every_node noPrim (Tr.every_node noPrim (Tr.every_node noPrim Tr.every_leaf Tr.every_leaf) Tr.every_leaf) (Tr.every_node noPrim (Tr.every_node noPrim Tr.every_leaf Tr.every_leaf) Tr.every_leaf))))) (Tr.every_node noPrim (Tr.every_node noPrim (Tr.every_node noPrim (Tr.every_node noPrim (Tr.every_node noPrim (Tr.every_node noPrim Tr.every_leaf Tr.every_leaf) Tr.every_leaf) (Tr.every_node (onePrim prim98) (Tr.every_node noPrim Tr.every_leaf Tr.every_leaf) Tr.every_leaf)) (Tr.every_node noPrim (Tr.every_node noPrim (Tr.every_node noPrim Tr.every_leaf Tr.every_leaf) Tr.every_leaf) (Tr.every_node noPrim (Tr.every_node noPrim Tr.every_leaf Tr.every_leaf) Tr.every_leaf))) (Tr.every_node noPrim (Tr.every_node noPrim (Tr.every_node noPrim (Tr.every_node noPrim Tr.every_leaf Tr.every_leaf) Tr.every_leaf) (Tr.every_node noPrim (Tr.every_node noPrim Tr.every_leaf Tr.every_leaf) Tr.every_leaf)) (Tr.every_node noPrim (Tr.every_node noPrim (Tr.every_node noPrim Tr.every_leaf Tr.every_leaf) Tr.every_leaf) (Tr.every_node noPrim (Tr.every_node noPrim Tr.every_leaf Tr.every_leaf) Tr.every_leaf)))) (Tr.every_node noPrim (Tr.every_node noPrim (Tr.every_node noPrim (Tr.every_node noPrim (Tr.every_node noPrim Tr.every_leaf Tr.every_leaf) Tr.every_leaf) (Tr.every_node noPrim (Tr.every_node noPrim Tr.every_leaf Tr.every_leaf) Tr.every_leaf)) (Tr.every_node noPrim (Tr.every_node noPrim (Tr.every_node noPrim Tr.every_leaf Tr.every_leaf) Tr.every_leaf) (Tr.every_node noPrim (Tr.every_node noPrim Tr.every_leaf Tr.every_leaf) Tr.every_leaf))) (Tr.every_node noPrim (Tr.every_node noPrim (Tr.every_node noPrim (Tr.every_node noPrim Tr.every_leaf Tr.every_leaf) Tr.every_leaf) (Tr.every_node noPrim (Tr.every_node noPrim Tr.every_leaf Tr.every_leaf) Tr.every_leaf)) (Tr.every_node noPrim (Tr.every_node noPrim (Tr.every_node noPrim Tr.every_leaf Tr.every_leaf) Tr.every_leaf) (Tr.every_node noPrim (Tr.every_node noPrim Tr.every_leaf Tr.every_leaf) Tr.every_leaf)))))))
noncomputable def vE : Env where
  T := vT
  F i := vF.get i
  prim i := vP.get i
  full i := vfull.any fun j => i.beq j
  isLook i := vlook.any fun j => i.beq j
  imm f t := match vI.get f with
    | some l => l.any fun j => t.beq j
    | none => false
  G b := vG.get b
  memo _ := []
theorem vE_ok : EnvOk Tryz.prog vE := ⟨vT_ok, fun f fn h => Tr.every_get vF _ vF_ok f fn h, primOk_of fun f q h => Tr.every_get vP _ vP_ok f q h, by kernel_rfl, (fun _ _ h => by cases h), fun _ r _ _ h _ => absurd (show (none : Option (List AV → Option AV)) = some r from h) (by simp)⟩
end Go.Proofs.YtoopmjhdgkcleaaGreatDoor.Vm
set_option maxRecDepth 1000000
set_option maxHeartbeats 0
namespace Go.Proofs.YtoopmjhdgkcleaaGreatDoor.Vm
open Go Go.VM Go.Proofs
/-- rostrum/rostrumlaw15.ScopeBound -/
noncomputable def g3_L1 (st17 : St) : Car → Option (Car ⊕ Nat × Car) := fun c31 => unc (Prod.fst c31) fun v32 l33 => asB v32 fun b34 => unc l33 fun v35 l36 => asI .i64 v35 fun n37 => un0 l36 (loadS 1 false (AV.mp (St.h
 st17) 1) (Prod.snd c31) fun v38 _x => lenS v38 fun k40 => ifB (decide (n37 < (↑k40 : Int))) (loadS 1 false (AV.mp (St.h st17) 1) (Prod.snd c31) fun v41 _x => idxA 4 v41 n37 (Prod.snd c31) fun v43 _x => fldA 3 v43 fun
 v45 => loadS 1 false v45 (Prod.snd c31) fun v46 _x => asI .i64 v46 fun n48 => bindO (loadS 1 false (AV.mp (St.h st17) 1) (Prod.snd c31) fun v49 _x => idxA 4 v49 n37 (Prod.snd c31) fun v51 _x => fldA 0 v51 fun v53 =>
 loadS 1 false v53 (Prod.snd c31) fun v54 _x => asS v54 fun l56 => ifB (l56 == [110, 111, 116]) (some ([AV.bool true], Prod.snd c31)) (loadS 1 false (AV.mp (St.h st17) 1) (Prod.snd c31) fun v57 _x => idxA 4 v57 n37
 (Prod.snd c31) fun v59 _x => fldA 0 v59 fun v61 => loadS 1 false v61 (Prod.snd c31) fun v62 _x => asS v62 fun l64 => ifB (l64 == [102, 115, 116]) (some ([AV.bool true], Prod.snd c31)) (loadS 1 false (AV.mp (St.h st17)
 1) (Prod.snd c31) fun v65 _x => idxA 4 v65 n37 (Prod.snd c31) fun v67 _x => fldA 0 v67 fun v69 => loadS 1 false v69 (Prod.snd c31) fun v70 _x => asS v70 fun l72 => ifB (l72 == [115, 110, 100]) (some ([AV.bool true],
 Prod.snd c31)) (loadS 1 false (AV.mp (St.h st17) 1) (Prod.snd c31) fun v73 _x => idxA 4 v73 n37 (Prod.snd c31) fun v75 _x => fldA 0 v75 fun v77 => loadS 1 false v77 (Prod.snd c31) fun v78 _x => asS v78 fun l80 => some
 ([AV.bool (l80 == [102, 108, 111, 97, 116])], Prod.snd c31))))) fun c81 => unc (Prod.fst c81) fun v82 l83 => asB v82 fun b84 => un0 l83 (bindO (ifB (decide (n48 < -2)) (some ([AV.bool true], Prod.snd c81)) (loadS 1
 false (AV.mp (St.h st17) 0) (Prod.snd c81) fun v85 _x => lenS v85 fun k87 => ifB (decide (n48 ≥ (↑k87 : Int))) (some ([AV.bool true], Prod.snd c81)) (ifB (decide (n48 ≥ 0)) (loadS 1 false (AV.mp (St.h st17) 0) (Prod.snd
 c81) fun v88 _x => idxA 3 v88 n48 (Prod.snd c81) fun v90 _x => fldA 0 v90 fun v92 => loadS 1 false v92 (Prod.snd c81) fun v93 _x => asS v93 fun l95 => loadS 1 false (AV.mp (St.h st17) 1) (Prod.snd c81) fun v96 _x =>
 idxA 4 v96 n37 (Prod.snd c81) fun v98 _x => fldA 0 v98 fun v100 => loadS 1 false v100 (Prod.snd c81) fun v101 _x => asS v101 fun l103 => ifB (!l95 == l103) (some ([AV.bool true], Prod.snd c81)) (ifB (n48 == -2) (ifB
 (!b84) (some ([AV.bool true], Prod.snd c81)) (ifB (n48 == -1) (some ([AV.bool b84], Prod.snd c81)) (some ([AV.bool false], Prod.snd c81)))) (ifB (n48 == -1) (some ([AV.bool b84], Prod.snd c81)) (some ([AV.bool false],
 Prod.snd c81))))) (ifB (n48 == -2) (ifB (!b84) (some ([AV.bool true], Prod.snd c81)) (ifB (n48 == -1) (some ([AV.bool b84], Prod.snd c81)) (some ([AV.bool false], Prod.snd c81)))) (ifB (n48 == -1) (some ([AV.bool b84],
 Prod.snd c81)) (some ([AV.bool false], Prod.snd c81))))))) fun c104 => unc (Prod.fst c104) fun v105 l106 => asB v105 fun b107 => un0 l106 (ifB b107 (some (Sum.inr (1, [AV.bool false], Prod.snd c104))) (letV
 (IntKind.wrap .i64 (n37 + 1)) fun n108 => some (Sum.inl ([AV.bool b34, AV.int .i64 n108], Prod.snd c104)))))) (some (Sum.inr (0, [AV.bool b34], Prod.snd c31))))
noncomputable def g3_L2 (st17 : St) : Car → Option (Car ⊕ Nat × Car) := fun c113 => unc (Prod.fst c113) fun v114 l115 => asB v114 fun b116 => unc l115 fun v117 l118 => asI .i64 v117 fun n119 => un0 l118 (loadS 1 false
 (AV.mp (St.h st17) 2) (Prod.snd c113) fun v120 _x => lenS v120 fun k122 => ifB (decide (n119 < (↑k122 : Int))) (bindO (loadS 1 false (AV.mp (St.h st17) 2) (Prod.snd c113) fun v123 _x => idxA 1 v123 n119 (Prod.snd c113)
 fun v125 _x => loadS 1 false v125 (Prod.snd c113) fun v127 _x => asI .i64 v127 fun n129 => ifB (decide (n129 < 1)) (some ([AV.bool true], Prod.snd c113)) (loadS 1 false (AV.mp (St.h st17) 2) (Prod.snd c113) fun v130 _x
 => idxA 1 v130 n119 (Prod.snd c113) fun v132 _x => loadS 1 false v132 (Prod.snd c113) fun v134 _x => asI .i64 v134 fun n136 => loadS 1 false (AV.mp (St.h st17) 0) (Prod.snd c113) fun v137 _x => lenS v137 fun k139 => ifB
 (decide (n136 ≥ (↑k139 : Int))) (some ([AV.bool true], Prod.snd c113)) (ifB (decide (n119 > 0)) (loadS 1 false (AV.mp (St.h st17) 2) (Prod.snd c113) fun v140 _x => idxA 1 v140 n119 (Prod.snd c113) fun v142 _x => loadS 1
 false v142 (Prod.snd c113) fun v144 _x => asI .i64 v144 fun n146 => loadS 1 false (AV.mp (St.h st17) 2) (Prod.snd c113) fun v147 _x => letV (IntKind.wrap .i64 (n119 - 1)) fun n149 => idxA 1 v147 n149 (Prod.snd c113) fun
 v150 _x => loadS 1 false v150 (Prod.snd c113) fun v152 _x => asI .i64 v152 fun n154 => some ([AV.bool (decide (n146 ≤ n154))], Prod.snd c113)) (some ([AV.bool false], Prod.snd c113))))) fun c155 => unc (Prod.fst c155)
 fun v156 l157 => asB v156 fun b158 => un0 l157 (ifB b158 (some (Sum.inr (1, [AV.bool false], Prod.snd c155))) (letV (IntKind.wrap .i64 (n119 + 1)) fun n159 => some (Sum.inl ([AV.bool b116, AV.int .i64 n159], Prod.snd
 c155))))) (some (Sum.inr (0, [AV.bool b116], Prod.snd c113))))
noncomputable def g3 : AV → Option AV := fun x0 => bindO (callS (orc vE) 7 [] (St.mk 0 0 Tr.leaf) fun v0 st1 _x => asB v0 fun b3 => ifB (!b3) (some ([AV.bool true], st1)) (callS (orc vE) 8 [x0] st1 fun v4 st5 _x => asB
 v4 fun b7 => some ([AV.bool b7], st5))) fun c8 => unc (Prod.fst c8) fun v9 l10 => asB v9 fun b11 => un0 l10 (ifB b11 (callS (orc vE) 7 [] (Prod.snd c8) fun v12 _x _x_1 => asB v12 fun b15 => some (AV.bool b15)) (callS
 (orc vE) 9 [x0] (Prod.snd c8) fun v16 st17 _x => unA v16 fun l20 => unc l20 fun v21 l22 => unc l22 fun v23 l24 => unc l24 fun v25 l26 => un0 l26 (letSt (St.add st17 (VM.Obj.cells 29 [AV.nils, AV.nils, AV.nils])) fun
 st27 => asOne v21 (asOne v23 (asOne v25 (storeS (orc vE) 3 (AV.mp (St.h st17) 0) (AV.agg [v21, v23, v25]) [v21, v23, v25] st27 fun _x st29 _x_1 => bindO (loopO (g3_L1 st17) ([AV.bool false, AV.int .i64 0], st29)) fun
 c109 => unc (Prod.fst (Prod.snd c109)) fun v110 l111 => asB v110 fun b112 => un0 l111 (sel2 (Prod.fst c109) (bindO (loopO (g3_L2 st17) ([AV.bool b112, AV.int .i64 0], Prod.snd (Prod.snd c109))) fun c160 => unc (Prod.fst
 (Prod.snd c160)) fun v161 l162 => asB v161 fun b163 => un0 l162 (sel2 (Prod.fst c160) (some (AV.bool true)) fun _x => some (AV.bool b163))) fun _x => some (AV.bool b112))))))))
/-- rostrum/rostrumlaw15.ScopeBehind -/
noncomputable def g4 : AV → AV → Option AV := fun x0 x1 => bindO (callS (orc vE) 7 [] (St.mk 0 0 Tr.leaf) fun v0 st1 _x => asB v0 fun b3 => ifB (!b3) (some ([AV.bool true], st1)) (callS (orc vE) 8 [x0] st1 fun v4 st5 _x
 => asB v4 fun b7 => ifB b7 (some ([AV.bool true], st5)) (callS (orc vE) 8 [x1] st5 fun v8 st9 _x => asB v8 fun b11 => some ([AV.bool b11], st9)))) fun c12 => unc (Prod.fst c12) fun v13 l14 => asB v13 fun b15 => un0 l14
 (ifB b15 (callS (orc vE) 7 [] (Prod.snd c12) fun v16 _x _x_1 => asB v16 fun b19 => some (AV.bool b19)) (callS (orc vE) 9 [x0] (Prod.snd c12) fun v20 st21 _x => unA v20 fun l24 => unc l24 fun v25 l26 => unc l26 fun v27
 l28 => unc l28 fun v29 l30 => un0 l30 (letSt (St.add st21 (VM.Obj.cells 29 [AV.nils, AV.nils, AV.nils])) fun st31 => asOne v25 (asOne v27 (asOne v29 (storeS (orc vE) 3 (AV.mp (St.h st21) 0) (AV.agg [v25, v27, v29])
 [v25, v27, v29] st31 fun _x st33 _x_1 => elemsS x0 fun l35 => fitTs true l35 fun l36 => chk (sizesOk 11 l36) (appS 11 144 65 (AV.sl 11 [] Perm.shut) l36 st33 fun v37 st38 _x => elemsS x1 fun l40 => fitTs true l40 fun
 l41 => chk (sizesOk 11 l41) (appS 11 144 65 v37 l41 st38 fun v42 st43 _x => callS (orc vE) 9 [v42] st43 fun v45 st46 _x => unA v45 fun l49 => unc l49 fun v50 l51 => unc l51 fun v52 l53 => unc l53 fun v54 l55 => un0 l55
 (letSt (St.add st46 (VM.Obj.cells 29 [AV.nils, AV.nils, AV.nils])) fun st56 => asOne v50 (asOne v52 (asOne v54 (storeS (orc vE) 3 (AV.mp (St.h st46) 0) (AV.agg [v50, v52, v54]) [v50, v52, v54] st56 fun _x st58 _x_2 =>
 bindO (loadS 1 false (AV.mp (St.h st46) 1) st58 fun v60 _x => lenS v60 fun k62 => loadS 1 false (AV.mp (St.h st21) 1) st58 fun v63 _x => lenS v63 fun k65 => ifB (decide ((↑k62 : Int) < (↑k65 : Int))) (some ([AV.bool
 true], st58)) (loadS 1 false (AV.mp (St.h st46) 0) st58 fun v66 _x => lenS v66 fun k68 => loadS 1 false (AV.mp (St.h st21) 0) st58 fun v69 _x => lenS v69 fun k71 => ifB (decide ((↑k68 : Int) < (↑k71 : Int))) (some
 ([AV.bool true], st58)) (loadS 1 false (AV.mp (St.h st46) 2) st58 fun v72 _x => lenS v72 fun k74 => loadS 1 false (AV.mp (St.h st21) 2) st58 fun v75 _x => lenS v75 fun k77 => some ([AV.bool (decide ((↑k74 : Int) < (↑k77
 : Int)))], st58)))) fun c78 => unc (Prod.fst c78) fun v79 l80 => asB v79 fun b81 => un0 l80 (ifB b81 (some (AV.bool false)) (loadS 1 false (AV.mp (St.h st46) 1) (Prod.snd c78) fun v82 _x => loadS 1 false (AV.mp (St.h
 st21) 1) (Prod.snd c78) fun v84 _x => lenS v84 fun k86 => sliceS 4 v82 none (some (↑k86 : Int)) none fun v87 => asOne v87 (asOne v87 (storeS (orc vE) 1 (AV.mp (St.h st46) 1) v87 [v87] (Prod.snd c78) fun _x st89 _x_3 =>
 loadS 1 false (AV.mp (St.h st46) 0) st89 fun v91 _x => loadS 1 false (AV.mp (St.h st21) 0) st89 fun v93 _x => lenS v93 fun k95 => sliceS 3 v91 none (some (↑k95 : Int)) none fun v96 => asOne v96 (asOne v96 (storeS (orc
 vE) 1 (AV.mp (St.h st46) 0) v96 [v96] st89 fun _x st98 _x_4 => loadS 1 false (AV.mp (St.h st46) 2) st98 fun v100 _x => loadS 1 false (AV.mp (St.h st21) 2) st98 fun v102 _x => lenS v102 fun k104 => sliceS 1 v100 none
 (some (↑k104 : Int)) none fun v105 => asOne v105 (asOne v105 (storeS (orc vE) 1 (AV.mp (St.h st46) 2) v105 [v105] st98 fun _x st107 _x_5 => loadS 3 true (AV.mp (St.h st21) 0) st107 fun v109 _x => unA v109 fun l112 =>
 unc l112 fun v113 l114 => unc l114 fun v115 l116 => unc l116 fun v117 l118 => un0 l118 (callS (orc vE) 11 [AV.agg [v113, v115, v117]] st107 fun v119 st120 x121 => unA v119 fun l123 => unc l123 fun v124 l125 => unc l125
 fun v126 l127 => unc l127 fun v128 l129 => un0 l129 (loadS 3 true (AV.mp (St.h st46) 0) st120 fun v130 l131 => unA v130 fun l133 => unc l133 fun v134 l135 => unc l135 fun v136 l137 => unc l137 fun v138 l139 => un0 l139
 (chk (apart x121 (Fx.mk l131 Did.kept) && true) (callS (orc vE) 11 [AV.agg [v134, v136, v138]] st120 fun v140 st141 _x => unA v140 fun l144 => unc l144 fun v145 l146 => unc l146 fun v147 l148 => unc l148 fun v149 l150
 => un0 l150 (callS (orc vE) 10 [AV.agg [v124, v126, v128], AV.agg [v145, v147, v149]] st141 fun v151 _x _x_6 => asB v151 fun b154 => some (AV.bool b154))))))))))))))))))))))))))
/-- rostrum/rostrumlaw15.ScopeRenamed -/
noncomputable def g6_L1 (st18 : St) (n45 : Int) : Car → Option (Car ⊕ Nat × Car) := fun c46 => unc (Prod.fst c46) fun v47 l48 => unc l48 fun v49 l50 => asI .i64 v49 fun n51 => un0 l50 (loadS 1 false (AV.mp (St.h st18)
 0) (Prod.snd c46) fun v52 _x => lenS v52 fun k54 => ifB (decide (n51 < (↑k54 : Int))) (callS (orc vE) 17 [AV.int .i64 n45, AV.int .i64 n51] (Prod.snd c46) fun v55 st56 _x => asS v55 fun l58 => planS (orc vE) (rowAppendP
 (TI.mk U.str 1 16 [AV.str []] false false) 9 v47 [AV.str l58]) st56 fun v59 st60 _x => letV (IntKind.wrap .i64 (n51 + 1)) fun n62 => some (Sum.inl ([v59, AV.int .i64 n62], st60))) (some (Sum.inr (0, [v47], Prod.snd
 c46))))
noncomputable def g6_L2 (st18 : St) (v64 : AV) (n134 : Int) : Car → Option (Car ⊕ Nat × Car) := fun c149 => unc (Prod.fst c149) fun v150 l151 => asI .i64 v150 fun n152 => un0 l151 (loadS 1 false (AV.mp (St.h st18) 0)
 (Prod.snd c149) fun v153 _x => lenS v153 fun k155 => ifB (decide (n152 < (↑k155 : Int))) (bindO (ifB (n152 != n134) (loadS 1 false (AV.mp (St.h st18) 0) (Prod.snd c149) fun v156 _x => idxA 3 v156 n152 (Prod.snd c149)
 fun v158 _x => fldA 0 v158 fun v160 => loadS 1 false v160 (Prod.snd c149) fun v161 _x => asS v161 fun l163 => idxA 1 v64 n152 (Prod.snd c149) fun v164 _x => storeS (orc vE) 1 v164 (AV.str l163) [AV.str l163] (Prod.snd
 c149) fun _x st167 _x_1 => some ([], st167)) (some ([], Prod.snd c149))) fun c169 => un0 (Prod.fst c169) (letV (IntKind.wrap .i64 (n152 + 1)) fun n170 => some (Sum.inl ([AV.int .i64 n170], Prod.snd c169)))) (some
 (Sum.inr (0, [], Prod.snd c149))))
noncomputable def g6 : AV → AV → Option AV := fun x0 x1 => asI .i64 x1 fun n0 => bindO (callS (orc vE) 7 [] (St.mk 0 0 Tr.leaf) fun v1 st2 _x => asB v1 fun b4 => ifB (!b4) (some ([AV.bool true], st2)) (callS (orc vE) 8
 [x0] st2 fun v5 st6 _x => asB v5 fun b8 => some ([AV.bool b8], st6))) fun c9 => unc (Prod.fst c9) fun v10 l11 => asB v10 fun b12 => un0 l11 (ifB b12 (callS (orc vE) 7 [] (Prod.snd c9) fun v13 _x _x_1 => asB v13 fun b16
 => some (AV.bool b16)) (callS (orc vE) 9 [x0] (Prod.snd c9) fun v17 st18 _x => unA v17 fun l21 => unc l21 fun v22 l23 => unc l23 fun v24 l25 => unc l25 fun v26 l27 => un0 l27 (letSt (St.add st18 (VM.Obj.cells 29
 [AV.nils, AV.nils, AV.nils])) fun st28 => asOne v22 (asOne v24 (asOne v26 (storeS (orc vE) 3 (AV.mp (St.h st18) 0) (AV.agg [v22, v24, v26]) [v22, v24, v26] st28 fun _x st30 _x_1 => loadS 3 true (AV.mp (St.h st18) 0)
 st30 fun v32 _x => unA v32 fun l35 => unc l35 fun v36 l37 => unc l37 fun v38 l39 => unc l39 fun v40 l41 => un0 l41 (callS (orc vE) 16 [AV.agg [v36, v38, v40]] st30 fun v42 st43 _x => asI .i64 v42 fun n45 => ifB (decide
 (n45 > 5000)) (some (AV.bool true)) (bindO (loopO (g6_L1 st18 n45) ([AV.nils, AV.int .i64 0], st43)) fun c63 => unc (Prod.fst (Prod.snd c63)) fun v64 l65 => un0 l65 (loadS 3 true (AV.mp (St.h st18) 0) (Prod.snd
 (Prod.snd c63)) fun v66 _x => unA v66 fun l69 => unc l69 fun v70 l71 => unc l71 fun v72 l73 => unc l73 fun v74 l75 => un0 l75 (callS (orc vE) 18 [x0, AV.agg [v70, v72, v74], v64] (Prod.snd (Prod.snd c63)) fun v76 st77
 _x => callS (orc vE) 9 [v76] st77 fun v79 st80 _x => unA v79 fun l83 => unc l83 fun v84 l85 => unc l85 fun v86 l87 => unc l87 fun v88 l89 => un0 l89 (letSt (St.add st80 (VM.Obj.cells 29 [AV.nils, AV.nils, AV.nils])) fun
 st90 => asOne v84 (asOne v86 (asOne v88 (storeS (orc vE) 3 (AV.mp (St.h st80) 0) (AV.agg [v84, v86, v88]) [v84, v86, v88] st90 fun _x st92 _x_2 => bindO (loadS 3 true (AV.mp (St.h st18) 0) st92 fun v94 _x => unA v94 fun
 l97 => unc l97 fun v98 l99 => unc l99 fun v100 l101 => unc l101 fun v102 l103 => un0 l103 (loadS 3 true (AV.mp (St.h st80) 0) st92 fun v104 _x => unA v104 fun l107 => unc l107 fun v108 l109 => unc l109 fun v110 l111 =>
 unc l111 fun v112 l113 => un0 l113 (callS (orc vE) 19 [AV.agg [v98, v100, v102], AV.agg [v108, v110, v112]] st92 fun v114 st115 _x => asB v114 fun b117 => ifB (!b117) (some ([AV.bool true], st115)) (loadS 1 false (AV.mp
 (St.h st80) 2) st115 fun v118 _x => lenS v118 fun k120 => some ([AV.bool ((↑k120 : Int) != 0)], st115))))) fun c121 => unc (Prod.fst c121) fun v122 l123 => asB v122 fun b124 => un0 l123 (ifB b124 (some (AV.bool false))
 (loadS 1 false (AV.mp (St.h st18) 0) (Prod.snd c121) fun v125 _x => lenS v125 fun k127 => ifB ((↑k127 : Int) == 0) (some (AV.bool true)) (letV (IntKind.wrap .u64 n0) fun n128 => loadS 1 false (AV.mp (St.h st18) 0)
 (Prod.snd c121) fun v129 _x => lenS v129 fun k131 => letV (IntKind.wrap .u64 (↑k131 : Int)) fun n132 => chk (!decide (n132 = 0)) (letV (Int.tmod n128 n132) fun n133 => letV (IntKind.wrap .i64 n133) fun n134 => loadS 3
 true (AV.mp (St.h st18) 0) (Prod.snd c121) fun v135 _x => unA v135 fun l138 => unc l138 fun v139 l140 => unc l140 fun v141 l142 => unc l142 fun v143 l144 => un0 l144 (callS (orc vE) 15 [AV.agg [v139, v141, v143], AV.int
 .i64 n134] (Prod.snd c121) fun v145 st146 _x => lenS v145 fun k148 => ifB (decide ((↑k148 : Int) > 0)) (some (AV.bool true)) (bindO (loopO (g6_L2 st18 v64 n134) ([AV.int .i64 0], st146)) fun c171 => un0 (Prod.fst
 (Prod.snd c171)) (loadS 3 true (AV.mp (St.h st18) 0) (Prod.snd (Prod.snd c171)) fun v172 l173 => unA v172 fun l175 => unc l175 fun v176 l177 => unc l177 fun v178 l179 => unc l179 fun v180 l181 => un0 l181 (loadS 3 true
 (AV.mp (St.h st18) 0) (Prod.snd (Prod.snd c171)) fun v182 _x => unA v182 fun l185 => unc l185 fun v186 l187 => unc l187 fun v188 l189 => unc l189 fun v190 l191 => un0 l191 (callS (orc vE) 18 [x0, AV.agg [v186, v188,
 v190], v64] (Prod.snd (Prod.snd c171)) fun v192 st193 x194 => chk (apart (Fx.mk l173 Did.kept) x194 && true) (callS (orc vE) 9 [v192] st193 fun v195 st196 x197 => unA v195 fun l199 => unc l199 fun v200 l201 => unc l201
 fun v202 l203 => unc l203 fun v204 l205 => un0 l205 (chk (apart (Fx.mk l173 Did.kept) x197 && true) (callS (orc vE) 19 [AV.agg [v176, v178, v180], AV.agg [v200, v202, v204]] st196 fun v206 _x _x_3 => asB v206 fun b209
 => some (AV.bool b209)))))))))))))))))))))))))))
theorem g6_eq (x0 x1 : AV) : bareS vE 6 [x0, x1] = g6 x0 x1 := by kernel_rfl
/-- rostrum/rostrumlaw15.large -/
noncomputable def g8_L1 (x0 : AV) : Car → Option (Car ⊕ Nat × Car) := fun c1 => unc (Prod.fst c1) fun v2 l3 => asI .i64 v2 fun n4 => unc l3 fun v5 l6 => asI .i64 v5 fun n7 => un0 l6 (bindO (lenS x0 fun k8 => ifB (decide
 (n7 < (↑k8 : Int))) (some ([AV.bool (decide (n4 < 400))], Prod.snd c1)) (some ([AV.bool false], Prod.snd c1))) fun c9 => unc (Prod.fst c9) fun v10 l11 => asB v10 fun b12 => un0 l11 (ifB b12 (idxA 11 x0 n7 (Prod.snd c9)
 fun v13 _x => fldA 3 v13 fun v15 => loadS 1 false v15 (Prod.snd c9) fun v16 _x => callS (orc vE) 20 [v16] (Prod.snd c9) fun v18 st19 x20 => asI .i64 v18 fun n21 => chk (apart (Fx.mk [] Did.kept) x20 && true) (letV
 (IntKind.wrap .i64 (n4 + n21)) fun n22 => chk (apart x20 (Fx.mk [] Did.kept) && true) (chk (apart x20 (Fx.mk [] Did.kept) && true) (idxA 11 x0 n7 st19 fun v23 l24 => chk (apart x20 (Fx.mk l24 Did.kept) && true) (fldA 4
 v23 fun v25 => chk (apart x20 (Fx.mk [] Did.kept) && true) (loadS 7 true v25 st19 fun v26 l27 => unA v26 fun l29 => unc l29 fun v30 l31 => asI .u8 v30 fun n32 => unc l31 fun v33 l34 => asI .i64 v33 fun n35 => unc l34
 fun v36 l37 => asI .i64 v36 fun n38 => unc l37 fun v39 l40 => asB v39 fun b41 => unc l40 fun v42 l43 => asS v42 fun l44 => unc l43 fun v45 l46 => unc l46 fun v47 l48 => un0 l48 (chk (apart x20 (Fx.mk l27 Did.kept) &&
 true) (asOne v45 (asOne v47 (asOne v45 (asOne v47 (fit1 v45 fun v49 => fit1 v47 fun v50 => chk (apart x20 (Fx.mk [] Did.kept) && true) (callS (orc vE) 21 [AV.sl 7 [AV.agg [AV.int .u8 n32, AV.int .i64 n35, AV.int .i64
 n38, AV.bool b41, AV.str l44, v49, v50]] Perm.shut] st19 fun v51 st52 x53 => asI .i64 v51 fun n54 => chk (apart (Fx.mk [] Did.kept) x53 && (apart (Fx.mk [] Did.kept) x53 && true)) (letV (IntKind.wrap .i64 (n22 + n54))
 fun n55 => letV (IntKind.wrap .i64 (n7 + 1)) fun n56 => some (Sum.inl ([AV.int .i64 n55, AV.int .i64 n56], st52)))))))))))))))) (some (Sum.inr (0, [AV.int .i64 n4], Prod.snd c9)))))
noncomputable def g8 : AV → Option AV := fun x0 => lenS x0 fun k0 => bindO (loopO (g8_L1 x0) ([AV.int .i64 (↑k0 : Int), AV.int .i64 0], St.mk 0 0 Tr.leaf)) fun c57 => unc (Prod.fst (Prod.snd c57)) fun v58 l59 => asI
 .i64 v58 fun n60 => un0 l59 (some (AV.bool (decide (n60 ≥ 400))))
theorem g8_eq (x0 : AV) : bareS vE 8 [x0] = g8 x0 := by kernel_rfl
/-- rostrum/scope.Of -/
noncomputable def g9_L1 (x0 : AV) (k1 : Nat) : Car → Option (Car ⊕ Nat × Car) := fun c2 => unc (Prod.fst c2) fun v3 l4 => unc l4 fun v5 l6 => asI .i64 v5 fun n7 => un0 l6 (ifB (decide (n7 < (↑k1 : Int))) (idxA 11 x0 n7
 (Prod.snd c2) fun v8 _x => loadS 11 true v8 (Prod.snd c2) fun v10 _x => unA v10 fun l13 => unc l13 fun v14 l15 => asI .i64 v14 fun n16 => unc l15 fun v17 l18 => asI .i64 v17 fun n19 => unc l18 fun v20 l21 => asB v20 fun
 b22 => unc l21 fun v23 l24 => unc l24 fun v25 l26 => asI .u8 v25 fun n27 => unc l26 fun v28 l29 => asI .i64 v28 fun n30 => unc l29 fun v31 l32 => asI .i64 v31 fun n33 => unc l32 fun v34 l35 => asB v34 fun b36 => unc l35
 fun v37 l38 => asS v37 fun l39 => unc l38 fun v40 l41 => unc l41 fun v42 l43 => un0 l43 (letSt (St.add (Prod.snd c2) (VM.Obj.cells 65 [AV.int .i64 0, AV.int .i64 0, AV.bool false, AV.nils, AV.int .u8 0, AV.int .i64 0,
 AV.int .i64 0, AV.bool false, AV.str [], AV.nils, AV.nils])) fun st44 => asOne v23 (asOne v40 (asOne v42 (storeS (orc vE) 11 (AV.mp (St.h (Prod.snd c2)) 0) (AV.agg [AV.int .i64 n16, AV.int .i64 n19, AV.bool b22, v23,
 AV.int .u8 n27, AV.int .i64 n30, AV.int .i64 n33, AV.bool b36, AV.str l39, v40, v42]) [AV.int .i64 n16, AV.int .i64 n19, AV.bool b22, v23, AV.int .u8 n27, AV.int .i64 n30, AV.int .i64 n33, AV.bool b36, AV.str l39, v40,
 v42] st44 fun _x st46 _x_1 => loadS 1 false (AV.mp (St.h (Prod.snd c2)) 2) st46 fun v48 _x => asB v48 fun b50 => loadS 1 false (AV.mp (St.h (Prod.snd c2)) 3) st46 fun v51 _x => callS (orc vE) 22 [AV.mp 1 0, AV.bool b50,
 v51, v3] st46 fun v53 st54 _x => unT v53 fun l56 => nthS l56 0 fun v57 => unT v53 fun l58 => nthS l58 1 fun v59 => loadS 7 true (AV.mp (St.h (Prod.snd c2)) 4) st54 fun v60 _x => unA v60 fun l63 => unc l63 fun v64 l65 =>
 asI .u8 v64 fun n66 => unc l65 fun v67 l68 => asI .i64 v67 fun n69 => unc l68 fun v70 l71 => asI .i64 v70 fun n72 => unc l71 fun v73 l74 => asB v73 fun b75 => unc l74 fun v76 l77 => asS v76 fun l78 => unc l77 fun v79
 l80 => unc l80 fun v81 l82 => un0 l82 (callS (orc vE) 23 [AV.mp 1 0, AV.agg [AV.int .u8 n66, AV.int .i64 n69, AV.int .i64 n72, AV.bool b75, AV.str l78, v79, v81], v59] st54 fun _x st84 _x_2 => letV (IntKind.wrap .i64
 (n7 + 1)) fun n86 => some (Sum.inl ([v57, AV.int .i64 n86], st84)))))))) (some (Sum.inr (0, [], Prod.snd c2))))
noncomputable def g9 : AV → Option AV := fun x0 => lenS x0 fun k1 => bindO (loopO (g9_L1 x0 k1) ([AV.nilp, AV.int .i64 0], St.mk 2 0 (Tr.node (some (VM.Obj.cells 29 [AV.nils, AV.nils, AV.nils])) (Tr.node (some
 (VM.Obj.cells 69 [AV.nils, AV.nils, AV.nils])) Tr.leaf Tr.leaf) Tr.leaf))) fun c87 => un0 (Prod.fst (Prod.snd c87)) (loadS 3 true (AV.mp 1 0) (Prod.snd (Prod.snd c87)) fun v88 _x => unA v88 fun l91 => unc l91 fun v92
 l93 => unc l93 fun v94 l95 => unc l95 fun v96 l97 => un0 l97 (asOne v92 (asOne v94 (asOne v96 (storeS (orc vE) 3 (AV.mp 0 0) (AV.agg [v92, v94, v96]) [v92, v94, v96] (Prod.snd (Prod.snd c87)) fun _x st99 _x_1 => loadS 3
 true (AV.mp 0 0) st99 fun v101 _x => unA v101 fun l104 => unc l104 fun v105 l106 => unc l106 fun v107 l108 => unc l108 fun v109 l110 => un0 l110 (frzS st99 0 (AV.agg [v105, v107, v109]) fun v111 => some v111))))))
theorem g9_eq (x0 : AV) : bareS vE 9 [x0] = g9 x0 := by kernel_rfl
/-- rostrum/scope.Uses -/
noncomputable def g15_L1 (n8 : Int) (v10 : AV) (k12 : Nat) : Car → Option (Car ⊕ Nat × Car) := fun c13 => unc (Prod.fst c13) fun v14 l15 => unc l15 fun v16 l17 => asI .i64 v16 fun n18 => un0 l17 (ifB (decide (n18 <
 (↑k12 : Int))) (idxA 4 v10 n18 (Prod.snd c13) fun v19 _x => loadS 4 true v19 (Prod.snd c13) fun v21 _x => unA v21 fun l24 => unc l24 fun v25 l26 => asS v25 fun l27 => unc l26 fun v28 l29 => asI .i64 v28 fun n30 => unc
 l29 fun v31 l32 => asI .i64 v31 fun n33 => unc l32 fun v34 l35 => asI .i64 v34 fun n36 => un0 l35 (letSt (St.add (Prod.snd c13) (VM.Obj.cells 34 [AV.str [], AV.int .i64 0, AV.int .i64 0, AV.int .i64 0])) fun st37 =>
 storeS (orc vE) 4 (AV.mp (St.h (Prod.snd c13)) 0) (AV.agg [AV.str l27, AV.int .i64 n30, AV.int .i64 n33, AV.int .i64 n36]) [AV.str l27, AV.int .i64 n30, AV.int .i64 n33, AV.int .i64 n36] st37 fun _x st39 _x_1 => loadS 1
 false (AV.mp (St.h (Prod.snd c13)) 3) st39 fun v41 _x => asI .i64 v41 fun n43 => bindO (ifB (n43 == n8) (appS 1 8 3 v14 [AV.int .i64 n18] st39 fun v44 st45 _x => some ([v44], st45)) (some ([v14], st39))) fun c47 => unc
 (Prod.fst c47) fun v48 l49 => un0 l49 (letV (IntKind.wrap .i64 (n18 + 1)) fun n50 => some (Sum.inl ([v48, AV.int .i64 n50], Prod.snd c47))))) (some (Sum.inr (0, [v14], Prod.snd c13))))
noncomputable def g15 : AV → AV → Option AV := fun x0 x1 => unA x0 fun l1 => unc l1 fun v2 l3 => unc l3 fun v4 l5 => unc l5 fun v6 l7 => un0 l7 (asI .i64 x1 fun n8 => asOne v2 (asOne v4 (asOne v6 (fit1 v2 fun _x => fit1
 v4 fun v10 => fit1 v6 fun _x => lenS v10 fun k12 => bindO (loopO (g15_L1 n8 v10 k12) ([AV.nils, AV.int .i64 0], St.mk 0 0 Tr.leaf)) fun c51 => unc (Prod.fst (Prod.snd c51)) fun v52 l53 => un0 l53 (frzS (Prod.snd
 (Prod.snd c51)) 0 (oneOf [v52]) fun v54 => some v54)))))
theorem g15_eq (x0 x1 : AV) : bareS vE 15 [x0, x1] = g15 x0 x1 := by kernel_rfl
/-- rostrum/rostrumlaw15.longest -/
noncomputable def g16_L1 (v8 : AV) : Car → Option (Car ⊕ Nat × Car) := fun c11 => unc (Prod.fst c11) fun v12 l13 => asI .i64 v12 fun n14 => unc l13 fun v15 l16 => asI .i64 v15 fun n17 => un0 l16 (lenS v8 fun k18 => ifB
 (decide (n17 < (↑k18 : Int))) (idxA 3 v8 n17 (Prod.snd c11) fun v19 _x => fldA 0 v19 fun v21 => loadS 1 false v21 (Prod.snd c11) fun v22 _x => asS v22 fun l24 => letV (if (↑(List.length l24) : Int) > n14 then
 (↑(List.length l24) : Int) else n14) fun n25 => letV (IntKind.wrap .i64 (n17 + 1)) fun n26 => some (Sum.inl ([AV.int .i64 n25, AV.int .i64 n26], Prod.snd c11))) (some (Sum.inr (0, [AV.int .i64 n14], Prod.snd c11))))
noncomputable def g16_L2 (v9 : AV) : Car → Option (Car ⊕ Nat × Car) := fun c31 => unc (Prod.fst c31) fun v32 l33 => asI .i64 v32 fun n34 => unc l33 fun v35 l36 => asI .i64 v35 fun n37 => un0 l36 (lenS v9 fun k38 => ifB
 (decide (n37 < (↑k38 : Int))) (idxA 4 v9 n37 (Prod.snd c31) fun v39 _x => fldA 0 v39 fun v41 => loadS 1 false v41 (Prod.snd c31) fun v42 _x => asS v42 fun l44 => letV (if (↑(List.length l44) : Int) > n34 then
 (↑(List.length l44) : Int) else n34) fun n45 => letV (IntKind.wrap .i64 (n37 + 1)) fun n46 => some (Sum.inl ([AV.int .i64 n45, AV.int .i64 n46], Prod.snd c31))) (some (Sum.inr (0, [AV.int .i64 n34], Prod.snd c31))))
noncomputable def g16 : AV → Option AV := fun x0 => unA x0 fun l1 => unc l1 fun v2 l3 => unc l3 fun v4 l5 => unc l5 fun v6 l7 => un0 l7 (asOne v2 (asOne v4 (asOne v6 (fit1 v2 fun v8 => fit1 v4 fun v9 => fit1 v6 fun _x
 => bindO (loopO (g16_L1 v8) ([AV.int .i64 5, AV.int .i64 0], St.mk 0 0 Tr.leaf)) fun c27 => unc (Prod.fst (Prod.snd c27)) fun v28 l29 => asI .i64 v28 fun n30 => un0 l29 (bindO (loopO (g16_L2 v9) ([AV.int .i64 n30,
 AV.int .i64 0], Prod.snd (Prod.snd c27))) fun c47 => unc (Prod.fst (Prod.snd c47)) fun v48 l49 => asI .i64 v48 fun n50 => un0 l49 (some (AV.int .i64 n50)))))))
theorem g16_eq (x0 : AV) : bareS vE 16 [x0] = g16 x0 := by kernel_rfl
/-- rostrum/rostrumlaw15.fresh -/
noncomputable def g17_L1 (v3 : AV) : Car → Option (Car ⊕ Nat × Car) := fun c6 => unc (Prod.fst c6) fun v7 l8 => asI .i64 v7 fun n9 => un0 l8 (lenS v3 fun k10 => ifB (decide (n9 < (↑k10 : Int))) (idxA 1 v3 n9 (Prod.snd
 c6) fun v11 _x => storeS (orc vE) 1 v11 (AV.int .u8 122) [AV.int .u8 122] (Prod.snd c6) fun _x st14 _x_1 => letV (IntKind.wrap .i64 (n9 + 1)) fun n16 => some (Sum.inl ([AV.int .i64 n16], st14))) (some (Sum.inr (0, [],
 Prod.snd c6))))
noncomputable def g17 : AV → AV → Option AV := fun x0 x1 => asI .i64 x0 fun n0 => asI .i64 x1 fun n1 => letV (IntKind.wrap .i64 (n0 + 1)) fun n2 => planS (orc vE) (makeSliceP (Env.T vE) 93 (AV.int .i64 n2) (AV.int .i64
 n2)) (St.mk 0 0 Tr.leaf) fun v3 st4 _x => bindO (loopO (g17_L1 v3) ([AV.int .i64 0], st4)) fun c17 => un0 (Prod.fst (Prod.snd c17)) (planS (orc vE) (convertP (Env.T vE) 93 9 v3) (Prod.snd (Prod.snd c17)) fun v18 st19
 x20 => asS v18 fun l21 => letV l21 fun l22 => chk (apart x20 (Fx.mk [] Did.kept) && true) (callS (orc vE) 30 [AV.int .i64 n1] st19 fun v23 _x x25 => asS v23 fun l26 => chk (apart x20 x25 && (apart (Fx.mk [] Did.kept)
 x25 && true)) (chk (Nat.ble (List.length l22 + List.length l26) 9223372036854775807) (letV (l22 ++ l26) fun l27 => some (AV.str l27)))))
theorem g17_eq (x0 x1 : AV) : bareS vE 17 [x0, x1] = g17 x0 x1 := by kernel_rfl
/-- rostrum/rostrumlaw15.renamed -/
noncomputable def w18_L1 (x0 : AV) (st : St) : Car → Option (Car ⊕ Nat × Car) := fun c14 => unc (Prod.fst c14) fun v15 l16 => unc l16 fun v17 l18 => asI .i64 v17 fun n19 => un0 l18 (lenS x0 fun k20 => ifB (decide (n19 <
 (↑k20 : Int))) (idxA 11 x0 n19 (Prod.snd c14) fun v21 _x => loadS 11 true v21 (Prod.snd c14) fun v23 _x => unA v23 fun l26 => unc l26 fun v27 l28 => asI .i64 v27 fun n29 => unc l28 fun v30 l31 => asI .i64 v30 fun n32 =>
 unc l31 fun v33 l34 => asB v33 fun b35 => unc l34 fun v36 l37 => unc l37 fun v38 l39 => asI .u8 v38 fun n40 => unc l39 fun v41 l42 => asI .i64 v41 fun n43 => unc l42 fun v44 l45 => asI .i64 v44 fun n46 => unc l45 fun
 v47 l48 => asB v47 fun b49 => unc l48 fun v50 l51 => asS v50 fun l52 => unc l51 fun v53 l54 => unc l54 fun v55 l56 => un0 l56 (letSt (St.add (Prod.snd c14) (VM.Obj.cells 65 [AV.int .i64 0, AV.int .i64 0, AV.bool false,
 AV.nils, AV.int .u8 0, AV.int .i64 0, AV.int .i64 0, AV.bool false, AV.str [], AV.nils, AV.nils])) fun st57 => asOne v36 (asOne v53 (asOne v55 (storeS (orc vE) 11 (AV.mp (St.h (Prod.snd c14)) 0) (AV.agg [AV.int .i64
 n29, AV.int .i64 n32, AV.bool b35, v36, AV.int .u8 n40, AV.int .i64 n43, AV.int .i64 n46, AV.bool b49, AV.str l52, v53, v55]) [AV.int .i64 n29, AV.int .i64 n32, AV.bool b35, v36, AV.int .u8 n40, AV.int .i64 n43, AV.int
 .i64 n46, AV.bool b49, AV.str l52, v53, v55] st57 fun _x st59 _x_1 => idxA 11 x0 n19 st59 fun v61 _x => fldA 3 v61 fun v63 => loadS 1 false v63 st59 fun v64 _x => callS (orc vE) 31 [AV.mp (St.h st) 0, v64] st59 fun v66
 st67 _x => asOne v66 (asOne v66 (storeS (orc vE) 1 (AV.mp (St.h (Prod.snd c14)) 3) v66 [v66] st67 fun _x st70 _x_2 => idxA 11 x0 n19 st70 fun v72 _x => fldA 4 v72 fun v74 => loadS 7 true v74 st70 fun v75 _x => unA v75
 fun l78 => unc l78 fun v79 l80 => asI .u8 v79 fun n81 => unc l80 fun v82 l83 => asI .i64 v82 fun n84 => unc l83 fun v85 l86 => asI .i64 v85 fun n87 => unc l86 fun v88 l89 => asB v88 fun b90 => unc l89 fun v91 l92 => asS
 v91 fun l93 => unc l92 fun v94 l95 => unc l95 fun v96 l97 => un0 l97 (callS (orc vE) 32 [AV.mp (St.h st) 0, AV.agg [AV.int .u8 n81, AV.int .i64 n84, AV.int .i64 n87, AV.bool b90, AV.str l93, v94, v96]] st70 fun v98 st99
 _x => unA v98 fun l102 => unc l102 fun v103 l104 => asI .u8 v103 fun n105 => unc l104 fun v106 l107 => asI .i64 v106 fun n108 => unc l107 fun v109 l110 => asI .i64 v109 fun n111 => unc l110 fun v112 l113 => asB v112 fun
 b114 => unc l113 fun v115 l116 => asS v115 fun l117 => unc l116 fun v118 l119 => unc l119 fun v120 l121 => un0 l121 (asOne v118 (asOne v120 (storeS (orc vE) 7 (AV.mp (St.h (Prod.snd c14)) 4) (AV.agg [AV.int .u8 n105,
 AV.int .i64 n108, AV.int .i64 n111, AV.bool b114, AV.str l117, v118, v120]) [AV.int .u8 n105, AV.int .i64 n108, AV.int .i64 n111, AV.bool b114, AV.str l117, v118, v120] st99 fun _x st123 _x_3 => loadS 11 true (AV.mp
 (St.h (Prod.snd c14)) 0) st123 fun v125 _x => unA v125 fun l128 => unc l128 fun v129 l130 => asI .i64 v129 fun n131 => unc l130 fun v132 l133 => asI .i64 v132 fun n134 => unc l133 fun v135 l136 => asB v135 fun b137 =>
 unc l136 fun v138 l139 => unc l139 fun v140 l141 => asI .u8 v140 fun n142 => unc l141 fun v143 l144 => asI .i64 v143 fun n145 => unc l144 fun v146 l147 => asI .i64 v146 fun n148 => unc l147 fun v149 l150 => asB v149 fun
 b151 => unc l150 fun v152 l153 => asS v152 fun l154 => unc l153 fun v155 l156 => unc l156 fun v157 l158 => un0 l158 (asOne v138 (asOne v155 (asOne v157 (asOne v138 (asOne v155 (asOne v157 (fit1 v138 fun v159 => fit1
 v155 fun v160 => fit1 v157 fun v161 => asOne v159 (asOne v160 (asOne v161 (fit1 v159 fun v162 => fit1 v160 fun v163 => fit1 v161 fun v164 => appS 11 144 65 v15 [AV.agg [AV.int .i64 n131, AV.int .i64 n134, AV.bool b137,
 v162, AV.int .u8 n142, AV.int .i64 n145, AV.int .i64 n148, AV.bool b151, AV.str l154, v163, v164]] st123 fun v165 st166 _x => letV (IntKind.wrap .i64 (n19 + 1)) fun n168 => some (Sum.inl ([v165, AV.int .i64 n168],
 st166))))))))))))))))))))))) (some (Sum.inr (0, [v15], Prod.snd c14))))
noncomputable def w18 : AV → AV → AV → St → Option (AV × St) := fun x0 x1 x2 st => unA x1 fun l1 => unc l1 fun v2 l3 => unc l3 fun v4 l5 => unc l5 fun v6 l7 => un0 l7 (asOne v2 (asOne v4 (asOne v6 (fit1 v2 fun v8 =>
 fit1 v4 fun v9 => fit1 v6 fun v10 => asOne x2 (asOne v8 (asOne v9 (asOne v10 (asOne x2 (letSt (St.add st (VM.Obj.cells 97 [v8, v9, v10, x2, AV.int .i64 0, AV.int .i64 0])) fun st13 => bindO (loopO (w18_L1 x0 st)
 ([AV.nils, AV.int .i64 0], st13)) fun c169 => unc (Prod.fst (Prod.snd c169)) fun v170 l171 => un0 l171 (some (oneOf [v170], Prod.snd (Prod.snd c169))))))))))))
theorem w18_eq (x0 x1 x2 : AV) (st : St) : wideS vE 18 [x0, x1, x2] st = w18 x0 x1 x2 st := by kernel_rfl
/-- rostrum/rostrumlaw15.means -/
noncomputable def g19_L1 (v17 : AV) (v20 : AV) : Car → Option (Car ⊕ Nat × Car) := fun c30 => unc (Prod.fst c30) fun v31 l32 => asB v31 fun b33 => unc l32 fun v34 l35 => asI .i64 v34 fun n36 => un0 l35 (lenS v17 fun k37
 => ifB (decide (n36 < (↑k37 : Int))) (bindO (idxA 4 v17 n36 (Prod.snd c30) fun v38 _x => fldA 3 v38 fun v40 => loadS 1 false v40 (Prod.snd c30) fun v41 _x => asI .i64 v41 fun n43 => idxA 4 v20 n36 (Prod.snd c30) fun v44
 _x => fldA 3 v44 fun v46 => loadS 1 false v46 (Prod.snd c30) fun v47 _x => asI .i64 v47 fun n49 => ifB (n43 != n49) (some ([AV.bool true], Prod.snd c30)) (idxA 4 v17 n36 (Prod.snd c30) fun v50 _x => fldA 1 v50 fun v52
 => loadS 2 true v52 (Prod.snd c30) fun v53 _x => unA v53 fun l56 => unc l56 fun v57 l58 => asI .i64 v57 fun n59 => unc l58 fun v60 l61 => asI .i64 v60 fun n62 => un0 l61 (idxA 4 v20 n36 (Prod.snd c30) fun v63 _x => fldA
 1 v63 fun v65 => loadS 2 true v65 (Prod.snd c30) fun v66 _x => unA v66 fun l69 => unc l69 fun v70 l71 => asI .i64 v70 fun n72 => unc l71 fun v73 l74 => asI .i64 v73 fun n75 => un0 l74 (bindO (toO (VM.binOp (Env.T vE)
 BinOp.neq 32 (AV.agg [AV.int .i64 n59, AV.int .i64 n62]) (AV.agg [AV.int .i64 n72, AV.int .i64 n75]))) fun v76 => asB v76 fun b77 => some ([AV.bool b77], Prod.snd c30))))) fun c78 => unc (Prod.fst c78) fun v79 l80 =>
 asB v79 fun b81 => un0 l80 (ifB b81 (some (Sum.inr (1, [AV.bool false], Prod.snd c78))) (letV (IntKind.wrap .i64 (n36 + 1)) fun n82 => some (Sum.inl ([AV.bool b33, AV.int .i64 n82], Prod.snd c78))))) (some (Sum.inr (0,
 [AV.bool b33], Prod.snd c30))))
noncomputable def g19 : AV → AV → Option AV := fun x0 x1 => unA x0 fun l1 => unc l1 fun v2 l3 => unc l3 fun v4 l5 => unc l5 fun v6 l7 => un0 l7 (unA x1 fun l9 => unc l9 fun v10 l11 => unc l11 fun v12 l13 => unc l13 fun
 v14 l15 => un0 l15 (asOne v2 (asOne v4 (asOne v6 (fit1 v2 fun v16 => fit1 v4 fun v17 => fit1 v6 fun _x => asOne v10 (asOne v12 (asOne v14 (fit1 v10 fun v19 => fit1 v12 fun v20 => fit1 v14 fun _x => bindO (lenS v17 fun
 k22 => lenS v20 fun k23 => ifB ((↑k22 : Int) != (↑k23 : Int)) (some ([AV.bool true], St.mk 0 0 Tr.leaf)) (lenS v16 fun k24 => lenS v19 fun k25 => some ([AV.bool ((↑k24 : Int) != (↑k25 : Int))], St.mk 0 0 Tr.leaf))) fun
 c26 => unc (Prod.fst c26) fun v27 l28 => asB v27 fun b29 => un0 l28 (ifB b29 (some (AV.bool false)) (bindO (loopO (g19_L1 v17 v20) ([AV.bool false, AV.int .i64 0], Prod.snd c26)) fun c83 => unc (Prod.fst (Prod.snd c83))
 fun v84 l85 => asB v84 fun b86 => un0 l85 (sel2 (Prod.fst c83) (some (AV.bool true)) fun _x => some (AV.bool b86))))))))))))
theorem g19_eq (x0 x1 : AV) : bareS vE 19 [x0, x1] = g19 x0 x1 := by kernel_rfl
/-- rostrum/rostrumlaw15.pats -/
noncomputable def g20_L1 (x0 : AV) : Car → Option (Car ⊕ Nat × Car) := fun c1 => unc (Prod.fst c1) fun v2 l3 => asI .i64 v2 fun n4 => unc l3 fun v5 l6 => asI .i64 v5 fun n7 => un0 l6 (bindO (lenS x0 fun k8 => ifB
 (decide (n7 < (↑k8 : Int))) (some ([AV.bool (decide (n4 < 1000))], Prod.snd c1)) (some ([AV.bool false], Prod.snd c1))) fun c9 => unc (Prod.fst c9) fun v10 l11 => asB v10 fun b12 => un0 l11 (ifB b12 (idxA 6 x0 n7
 (Prod.snd c9) fun v13 _x => fldA 5 v13 fun v15 => loadS 1 false v15 (Prod.snd c9) fun v16 _x => callS (orc vE) 20 [v16] (Prod.snd c9) fun v18 st19 x20 => asI .i64 v18 fun n21 => chk (apart (Fx.mk [] Did.kept) x20 &&
 true) (letV (IntKind.wrap .i64 (n4 + n21)) fun n22 => chk (apart x20 (Fx.mk [] Did.kept) && true) (chk (apart x20 (Fx.mk [] Did.kept) && true) (idxA 6 x0 n7 st19 fun v23 l24 => chk (apart x20 (Fx.mk l24 Did.kept) &&
 true) (fldA 4 v23 fun v25 => chk (apart x20 (Fx.mk [] Did.kept) && true) (loadS 1 false v25 st19 fun v26 l27 => asS v26 fun l28 => chk (apart x20 (Fx.mk l27 Did.kept) && true) (chk (apart x20 (Fx.mk [] Did.kept) &&
 true) (letV (if 10000 < (↑(List.length l28) : Int) then 10000 else (↑(List.length l28) : Int)) fun n29 => chk (apart x20 (Fx.mk [] Did.kept) && true) (letV (IntKind.wrap .i64 (Int.tdiv n29 64)) fun n30 => chk (apart x20
 (Fx.mk [] Did.kept) && true) (letV (IntKind.wrap .i64 (n22 + n30)) fun n31 => letV (IntKind.wrap .i64 (n7 + 1)) fun n32 => some (Sum.inl ([AV.int .i64 n31, AV.int .i64 n32], st19)))))))))))) (some (Sum.inr (0, [AV.int
 .i64 n4], Prod.snd c9)))))
noncomputable def g20 : AV → Option AV := fun x0 => lenS x0 fun k0 => bindO (loopO (g20_L1 x0) ([AV.int .i64 (↑k0 : Int), AV.int .i64 0], St.mk 0 0 Tr.leaf)) fun c33 => unc (Prod.fst (Prod.snd c33)) fun v34 l35 => asI
 .i64 v34 fun n36 => un0 l35 (some (AV.int .i64 n36))
theorem g20_eq (x0 : AV) : bareS vE 20 [x0] = g20 x0 := by kernel_rfl
/-- rostrum/rostrumlaw15.exprs -/
noncomputable def g21_L1 (x0 : AV) : Car → Option (Car ⊕ Nat × Car) := fun c1 => unc (Prod.fst c1) fun v2 l3 => asI .i64 v2 fun n4 => unc l3 fun v5 l6 => asI .i64 v5 fun n7 => un0 l6 (bindO (lenS x0 fun k8 => ifB
 (decide (n7 < (↑k8 : Int))) (some ([AV.bool (decide (n4 < 1000))], Prod.snd c1)) (some ([AV.bool false], Prod.snd c1))) fun c9 => unc (Prod.fst c9) fun v10 l11 => asB v10 fun b12 => un0 l11 (ifB b12 (idxA 7 x0 n7
 (Prod.snd c9) fun v13 _x => fldA 5 v13 fun v15 => loadS 1 false v15 (Prod.snd c9) fun v16 _x => callS (orc vE) 20 [v16] (Prod.snd c9) fun v18 st19 x20 => asI .i64 v18 fun n21 => chk (apart (Fx.mk [] Did.kept) x20 &&
 true) (letV (IntKind.wrap .i64 (n4 + n21)) fun n22 => chk (apart x20 (Fx.mk [] Did.kept) && true) (chk (apart x20 (Fx.mk [] Did.kept) && true) (idxA 7 x0 n7 st19 fun v23 l24 => chk (apart x20 (Fx.mk l24 Did.kept) &&
 true) (fldA 6 v23 fun v25 => chk (apart x20 (Fx.mk [] Did.kept) && true) (loadS 1 false v25 st19 fun v26 l27 => chk (apart x20 (Fx.mk l27 Did.kept) && true) (callS (orc vE) 21 [v26] st19 fun v28 st29 x30 => asI .i64 v28
 fun n31 => chk (apart (Fx.mk [] Did.kept) x30 && (apart (Fx.mk [] Did.kept) x30 && true)) (letV (IntKind.wrap .i64 (n22 + n31)) fun n32 => chk (apart x30 (Fx.mk [] Did.kept) && (apart x20 (Fx.mk [] Did.kept) && true))
 (chk (apart x30 (Fx.mk [] Did.kept) && (apart x20 (Fx.mk [] Did.kept) && true)) (idxA 7 x0 n7 st29 fun v33 l34 => chk (apart x30 (Fx.mk l34 Did.kept) && (apart x20 (Fx.mk l34 Did.kept) && true)) (fldA 4 v33 fun v35 =>
 chk (apart x30 (Fx.mk [] Did.kept) && (apart x20 (Fx.mk [] Did.kept) && true)) (loadS 1 false v35 st29 fun v36 l37 => asS v36 fun l38 => chk (apart x30 (Fx.mk l37 Did.kept) && (apart x20 (Fx.mk l37 Did.kept) && true))
 (chk (apart x30 (Fx.mk [] Did.kept) && (apart x20 (Fx.mk [] Did.kept) && true)) (letV (if 10000 < (↑(List.length l38) : Int) then 10000 else (↑(List.length l38) : Int)) fun n39 => chk (apart x30 (Fx.mk [] Did.kept) &&
 (apart x20 (Fx.mk [] Did.kept) && true)) (letV (IntKind.wrap .i64 (Int.tdiv n39 64)) fun n40 => chk (apart x30 (Fx.mk [] Did.kept) && (apart x20 (Fx.mk [] Did.kept) && true)) (letV (IntKind.wrap .i64 (n32 + n40)) fun
 n41 => letV (IntKind.wrap .i64 (n7 + 1)) fun n42 => some (Sum.inl ([AV.int .i64 n41, AV.int .i64 n42], st29)))))))))))))))))) (some (Sum.inr (0, [AV.int .i64 n4], Prod.snd c9)))))
noncomputable def g21 : AV → Option AV := fun x0 => lenS x0 fun k0 => bindO (loopO (g21_L1 x0) ([AV.int .i64 (↑k0 : Int), AV.int .i64 0], St.mk 0 0 Tr.leaf)) fun c43 => unc (Prod.fst (Prod.snd c43)) fun v44 l45 => asI
 .i64 v44 fun n46 => un0 l45 (some (AV.int .i64 n46))
theorem g21_eq (x0 : AV) : bareS vE 21 [x0] = g21 x0 := by kernel_rfl
/-- (*rostrum/scope.maker).two -/
noncomputable def w22 : AV → AV → AV → AV → St → Option (AV × St) := fun x0 x1 x2 x3 st => asB x1 fun b0 => lenS x2 fun k1 => letV (if (↑k1 : Int) < 1 then (↑k1 : Int) else 1) fun n2 => sliceS 6 x2 none (some n2) none
 fun v3 => callS (orc vE) 33 [x0, v3, x3] st fun v4 st5 _x => sliceS 6 x2 (some n2) none none fun v7 => callS (orc vE) 33 [x0, v7, x3] st5 fun v8 st9 _x => bindO (ifB b0 (chk (notNil v8) (fldA 1 v8 fun v11 => asOne v4
 (asOne v4 (storeS (orc vE) 1 v11 v4 [v4] st9 fun _x st13 _x_1 => some ([], st13))))) (some ([], st9))) fun c15 => un0 (Prod.fst c15) (some (AV.tup [v4, v8], Prod.snd c15))
theorem w22_eq (x0 x1 x2 x3 : AV) (st : St) : wideS vE 22 [x0, x1, x2, x3] st = w22 x0 x1 x2 x3 st := by kernel_rfl
/-- (*rostrum/scope.maker).expr -/
noncomputable def w23_L1 (x0 : AV) (x2 : AV) (v21 : AV) (v22 : AV) (n24 : Int) (n68 : Int) : Car → Option (Car ⊕ Nat × Car) := fun c69 => unc (Prod.fst c69) fun v70 l71 => asI .i64 v70 fun n72 => un0 l71 (ifB (decide
 (n72 < n68)) (lenS v21 fun k73 => bindO (ifB (decide (n72 < (↑k73 : Int))) (letV (IntKind.wrap .i64 (n72 + 1)) fun n74 => sliceS 6 v21 (some n72) (some n74) none fun v75 => callS (orc vE) 33 [x0, v75, x2] (Prod.snd c69)
 fun v76 st77 _x => some ([v76], st77)) (some ([x2], Prod.snd c69))) fun c79 => unc (Prod.fst c79) fun v80 l81 => un0 l81 (letV (IntKind.wrap .i64 (n24 + n72)) fun n82 => lenS v22 fun k83 => bindO (ifB (decide (n82 <
 (↑k83 : Int))) (letV (IntKind.wrap .i64 (n24 + n72)) fun n84 => idxA 7 v22 n84 (Prod.snd c79) fun v85 _x => loadS 7 true v85 (Prod.snd c79) fun v87 _x => unA v87 fun l90 => unc l90 fun v91 l92 => asI .u8 v91 fun n93 =>
 unc l92 fun v94 l95 => asI .i64 v94 fun n96 => unc l95 fun v97 l98 => asI .i64 v97 fun n99 => unc l98 fun v100 l101 => asB v100 fun b102 => unc l101 fun v103 l104 => asS v103 fun l105 => unc l104 fun v106 l107 => unc
 l107 fun v108 l109 => un0 l109 (callS (orc vE) 23 [x0, AV.agg [AV.int .u8 n93, AV.int .i64 n96, AV.int .i64 n99, AV.bool b102, AV.str l105, v106, v108], v80] (Prod.snd c79) fun _x st111 _x_1 => some ([], st111))) (some
 ([], Prod.snd c79))) fun c113 => un0 (Prod.fst c113) (letV (IntKind.wrap .i64 (n72 + 1)) fun n114 => some (Sum.inl ([AV.int .i64 n114], Prod.snd c113))))) (some (Sum.inr (0, [], Prod.snd c69))))
noncomputable def w23 : AV → AV → AV → St → Option (AV × St) := fun x0 x1 x2 st => unA x1 fun l1 => unc l1 fun v2 l3 => asI .u8 v2 fun n4 => unc l3 fun v5 l6 => asI .i64 v5 fun n7 => unc l6 fun v8 l9 => asI .i64 v8 fun
 n10 => unc l9 fun v11 l12 => asB v11 fun b13 => unc l12 fun v14 l15 => asS v14 fun l16 => unc l15 fun v17 l18 => unc l18 fun v19 l20 => un0 l20 (asOne v17 (asOne v19 (fit1 v17 fun v21 => fit1 v19 fun v22 => lenS v22 fun
 k23 => letV (if (↑k23 : Int) < 1 then (↑k23 : Int) else 1) fun n24 => bindO (ifB (n4 == 1) (chk (notNil x0) (fldA 0 x0 fun v25 => fldA 1 v25 fun v26 => loadS 1 false v26 st fun v27 l28 => callS (orc vE) 34 [x2, AV.str
 l16] st fun v30 st31 x32 => asI .i64 v30 fun n33 => chk (apart (Fx.mk [] Did.kept) x32 && (apart (Fx.mk [] Did.kept) x32 && (apart (Fx.mk [] Did.kept) x32 && (apart (Fx.mk [] Did.kept) x32 && (apart (Fx.mk l28 Did.kept)
 x32 && (apart (Fx.mk [] Did.kept) x32 && (apart (Fx.mk [] Did.kept) x32 && (apart (Fx.mk [] Did.kept) x32 && (apart (Fx.mk [] Did.kept) x32 && (apart (Fx.mk [] Did.kept) x32 && true)))))))))) (appS 4 40 34 v27 [AV.agg
 [AV.str l16, AV.int .i64 n7, AV.int .i64 n10, AV.int .i64 n33]] st31 fun v35 st36 x37 => chk (apart (Fx.mk [] Did.kept) x37 && true) (chk (notNil x0) (fldA 0 x0 fun v38 => fldA 1 v38 fun v39 => asOne v35 (asOne v35
 (storeS (orc vE) 1 v39 v35 [v35] st36 fun _x st41 _x_1 => some (Sum.inl ([x2], st41))))))))) (bindO (ifB (n4 == 11) (callS (orc vE) 33 [x0, v21, x2] st fun v43 st44 _x => some (Sum.inl ([v43], st44))) (ifB (n4 == 14)
 (callS (orc vE) 22 [x0, AV.bool b13, v21, x2] st fun v46 st47 _x => unT v46 fun l49 => nthS l49 0 fun v50 => unT v46 fun l51 => nthS l51 1 fun v52 => sliceS 7 v22 none (some n24) none fun v53 => callS (orc vE) 35 [x0,
 v53, v52] st47 fun _x st55 _x_1 => sliceS 7 v22 (some n24) none none fun v57 => callS (orc vE) 35 [x0, v57, v50] st55 fun _x st59 _x_2 => some (Sum.inr (Sum.inr (AV.tup [], st59)))) (ifB (n4 == 13) (sliceS 7 v22 none
 (some n24) none fun v61 => callS (orc vE) 35 [x0, v61, x2] st fun _x st63 _x_1 => lenS v21 fun k65 => lenS v22 fun k66 => letV (IntKind.wrap .i64 ((↑k66 : Int) - n24)) fun n67 => letV (if n67 > (↑k65 : Int) then n67
 else (↑k65 : Int)) fun n68 => bindO (loopO (w23_L1 x0 x2 v21 v22 n24 n68) ([AV.int .i64 0], st63)) fun c115 => un0 (Prod.fst (Prod.snd c115)) (some (Sum.inr (Sum.inr (AV.tup [], Prod.snd (Prod.snd c115)))))) (some
 (Sum.inl ([x2], st)))))) fun c116 => onSum c116 fun c117 => unc (Prod.fst c117) fun v118 l119 => un0 l119 (some (Sum.inl ([v118], Prod.snd c117))))) fun c120 => onSum c120 fun c121 => unc (Prod.fst c121) fun v122 l123
 => un0 l123 (callS (orc vE) 35 [x0, v22, v122] (Prod.snd c121) fun _x st125 _x_1 => some (AV.tup [], st125)))))
theorem w23_eq (x0 x1 x2 : AV) (st : St) : wideS vE 23 [x0, x1, x2] st = w23 x0 x1 x2 st := by kernel_rfl
/-- rostrum/rostrumlaw15.digits -/
noncomputable def g30 : AV → Option AV := fun x0 => asI .i64 x0 fun n0 => ifB (decide (n0 < 10)) (letV (IntKind.wrap .i64 (48 + n0)) fun n1 => letV (IntKind.wrap .u8 n1) fun n2 => letV [UInt8.ofNat (Int.toNat n2)] fun
 l3 => some (AV.str l3)) (letV (IntKind.wrap .i64 (Int.tdiv n0 10)) fun n4 => callS (orc vE) 30 [AV.int .i64 n4] (St.mk 0 0 Tr.leaf) fun v5 st6 _x => asS v5 fun l8 => letV (Int.tmod n0 10) fun n9 => callS (orc vE) 30
 [AV.int .i64 n9] st6 fun v10 _x _x_1 => asS v10 fun l13 => chk (Nat.ble (List.length l8 + List.length l13) 9223372036854775807) (letV (l8 ++ l13) fun l14 => some (AV.str l14)))
theorem g30_eq (x0 : AV) : bareS vE 30 [x0] = g30 x0 := by kernel_rfl
/-- (*rostrum/rostrumlaw15.renamer).pats -/
noncomputable def w31_L1 (x0 : AV) (x1 : AV) : Car → Option (Car ⊕ Nat × Car) := fun c0 => unc (Prod.fst c0) fun v1 l2 => unc l2 fun v3 l4 => asI .i64 v3 fun n5 => un0 l4 (lenS x1 fun k6 => ifB (decide (n5 < (↑k6 :
 Int))) (idxA 6 x1 n5 (Prod.snd c0) fun v7 _x => loadS 6 true v7 (Prod.snd c0) fun v9 _x => unA v9 fun l12 => unc l12 fun v13 l14 => asI .u8 v13 fun n15 => unc l14 fun v16 l17 => asI .u8 v16 fun n18 => unc l17 fun v19
 l20 => asI .i64 v19 fun n21 => unc l20 fun v22 l23 => asI .i64 v22 fun n24 => unc l23 fun v25 l26 => asS v25 fun l27 => unc l26 fun v28 l29 => un0 l29 (letSt (St.add (Prod.snd c0) (VM.Obj.cells 101 [AV.int .u8 0, AV.int
 .u8 0, AV.int .i64 0, AV.int .i64 0, AV.str [], AV.nils])) fun st30 => asOne v28 (storeS (orc vE) 6 (AV.mp (St.h (Prod.snd c0)) 0) (AV.agg [AV.int .u8 n15, AV.int .u8 n18, AV.int .i64 n21, AV.int .i64 n24, AV.str l27,
 v28]) [AV.int .u8 n15, AV.int .u8 n18, AV.int .i64 n21, AV.int .i64 n24, AV.str l27, v28] st30 fun _x st32 _x_1 => loadS 1 false (AV.mp (St.h (Prod.snd c0)) 0) st32 fun v34 _x => asI .u8 v34 fun n36 => bindO (ifB (n36
 == 15) (chk (notNil x0) (fldA 4 x0 fun v37 => loadS 1 false v37 st32 fun v38 _x => asI .i64 v38 fun n40 => chk (notNil x0) (fldA 3 x0 fun v41 => loadS 1 false v41 st32 fun v42 _x => lenS v42 fun k44 => bindO (ifB
 (decide (n40 < (↑k44 : Int))) (chk (notNil x0) (fldA 3 x0 fun v45 => loadS 1 false v45 st32 fun v46 _x => chk (notNil x0) (fldA 4 x0 fun v48 => loadS 1 false v48 st32 fun v49 _x => asI .i64 v49 fun n51 => idxA 1 v46 n51
 st32 fun v52 _x => loadS 1 false v52 st32 fun v54 _x => asS v54 fun l56 => storeS (orc vE) 1 (AV.mp (St.h (Prod.snd c0)) 4) (AV.str l56) [AV.str l56] st32 fun _x st58 _x_2 => some ([], st58)))) (some ([], st32))) fun
 c60 => un0 (Prod.fst c60) (chk (notNil x0) (fldA 4 x0 fun v61 => loadS 1 false v61 (Prod.snd c60) fun v62 _x => asI .i64 v62 fun n64 => letV (IntKind.wrap .i64 (n64 + 1)) fun n65 => chk (notNil x0) (fldA 4 x0 fun v66 =>
 storeS (orc vE) 1 v66 (AV.int .i64 n65) [AV.int .i64 n65] (Prod.snd c60) fun _x st68 _x_2 => some ([], st68))))))) (some ([], st32))) fun c70 => un0 (Prod.fst c70) (idxA 6 x1 n5 (Prod.snd c70) fun v71 _x => fldA 5 v71
 fun v73 => loadS 1 false v73 (Prod.snd c70) fun v74 _x => callS (orc vE) 31 [x0, v74] (Prod.snd c70) fun v76 st77 _x => asOne v76 (asOne v76 (storeS (orc vE) 1 (AV.mp (St.h (Prod.snd c0)) 5) v76 [v76] st77 fun _x st80
 _x_2 => loadS 6 true (AV.mp (St.h (Prod.snd c0)) 0) st80 fun v82 _x => unA v82 fun l85 => unc l85 fun v86 l87 => asI .u8 v86 fun n88 => unc l87 fun v89 l90 => asI .u8 v89 fun n91 => unc l90 fun v92 l93 => asI .i64 v92
 fun n94 => unc l93 fun v95 l96 => asI .i64 v95 fun n97 => unc l96 fun v98 l99 => asS v98 fun l100 => unc l99 fun v101 l102 => un0 l102 (asOne v101 (asOne v101 (fit1 v101 fun v103 => asOne v103 (fit1 v103 fun v104 =>
 appS 6 64 101 v1 [AV.agg [AV.int .u8 n88, AV.int .u8 n91, AV.int .i64 n94, AV.int .i64 n97, AV.str l100, v104]] st80 fun v105 st106 _x => letV (IntKind.wrap .i64 (n5 + 1)) fun n108 => some (Sum.inl ([v105, AV.int .i64
 n108], st106)))))))))))) (some (Sum.inr (0, [v1], Prod.snd c0))))
noncomputable def w31 : AV → AV → St → Option (AV × St) := fun x0 x1 st => bindO (loopO (w31_L1 x0 x1) ([AV.nils, AV.int .i64 0], st)) fun c109 => unc (Prod.fst (Prod.snd c109)) fun v110 l111 => un0 l111 (some (oneOf
 [v110], Prod.snd (Prod.snd c109)))
theorem w31_eq (x0 x1 : AV) (st : St) : wideS vE 31 [x0, x1] st = w31 x0 x1 st := by kernel_rfl
/-- (*rostrum/rostrumlaw15.renamer).expr -/
noncomputable def w32_L1 (x0 : AV) (v21 : AV) (v22 : AV) (st23 : St) : Car → Option (Car ⊕ Nat × Car) := fun c122 => unc (Prod.fst c122) fun v123 l124 => asI .i64 v123 fun n125 => un0 l124 (bindO (lenS v21 fun k126 =>
 ifB (decide (n125 < (↑k126 : Int))) (some ([AV.bool true], Prod.snd c122)) (letV (IntKind.wrap .i64 (n125 + 1)) fun n127 => lenS v22 fun k128 => some ([AV.bool (decide (n127 < (↑k128 : Int)))], Prod.snd c122))) fun c129
 => unc (Prod.fst c129) fun v130 l131 => asB v130 fun b132 => un0 l131 (ifB b132 (lenS v21 fun k133 => bindO (ifB (decide (n125 < (↑k133 : Int))) (loadS 1 false (AV.mp (St.h st23) 5) (Prod.snd c129) fun v134 l135 => letV
 (IntKind.wrap .i64 (n125 + 1)) fun n136 => sliceS 6 v21 (some n125) (some n136) none fun v137 => callS (orc vE) 31 [x0, v137] (Prod.snd c129) fun v138 st139 x140 => chk (apart (Fx.mk l135 Did.kept) x140 && (apart (Fx.mk
 [] Did.kept) x140 && true)) (elemsS v138 fun l141 => fitTs true l141 fun l142 => chk (sizesOk 6 l142) (appS 6 64 101 v134 l142 st139 fun v143 st144 _x => asOne v143 (asOne v143 (storeS (orc vE) 1 (AV.mp (St.h st23) 5)
 v143 [v143] st144 fun _x st147 _x_1 => some ([], st147)))))) (some ([], Prod.snd c129))) fun c149 => un0 (Prod.fst c149) (letV (IntKind.wrap .i64 (n125 + 1)) fun n150 => lenS v22 fun k151 => bindO (ifB (decide (n150 <
 (↑k151 : Int))) (loadS 1 false (AV.mp (St.h st23) 6) (Prod.snd c149) fun v152 l153 => letV (IntKind.wrap .i64 (n125 + 1)) fun n154 => idxA 7 v22 n154 (Prod.snd c149) fun v155 _x => loadS 7 true v155 (Prod.snd c149) fun
 v157 _x => unA v157 fun l160 => unc l160 fun v161 l162 => asI .u8 v161 fun n163 => unc l162 fun v164 l165 => asI .i64 v164 fun n166 => unc l165 fun v167 l168 => asI .i64 v167 fun n169 => unc l168 fun v170 l171 => asB
 v170 fun b172 => unc l171 fun v173 l174 => asS v173 fun l175 => unc l174 fun v176 l177 => unc l177 fun v178 l179 => un0 l179 (callS (orc vE) 32 [x0, AV.agg [AV.int .u8 n163, AV.int .i64 n166, AV.int .i64 n169, AV.bool
 b172, AV.str l175, v176, v178]] (Prod.snd c149) fun v180 st181 x182 => unA v180 fun l184 => unc l184 fun v185 l186 => asI .u8 v185 fun n187 => unc l186 fun v188 l189 => asI .i64 v188 fun n190 => unc l189 fun v191 l192
 => asI .i64 v191 fun n193 => unc l192 fun v194 l195 => asB v194 fun b196 => unc l195 fun v197 l198 => asS v197 fun l199 => unc l198 fun v200 l201 => unc l201 fun v202 l203 => un0 l203 (chk (apart (Fx.mk l153 Did.kept)
 x182 && (apart (Fx.mk [] Did.kept) x182 && true)) (asOne v200 (asOne v202 (asOne v200 (asOne v202 (fit1 v200 fun v204 => fit1 v202 fun v205 => asOne v204 (asOne v205 (fit1 v204 fun v206 => fit1 v205 fun v207 => appS 7
 96 63 v152 [AV.agg [AV.int .u8 n187, AV.int .i64 n190, AV.int .i64 n193, AV.bool b196, AV.str l199, v206, v207]] st181 fun v208 st209 _x => asOne v208 (asOne v208 (storeS (orc vE) 1 (AV.mp (St.h st23) 6) v208 [v208]
 st209 fun _x st212 _x_1 => some ([], st212))))))))))))) (some ([], Prod.snd c149))) fun c214 => un0 (Prod.fst c214) (letV (IntKind.wrap .i64 (n125 + 1)) fun n215 => some (Sum.inl ([AV.int .i64 n215], Prod.snd c214)))))
 (some (Sum.inr (0, [], Prod.snd c129)))))
noncomputable def w32 : AV → AV → St → Option (AV × St) := fun x0 x1 st => unA x1 fun l1 => unc l1 fun v2 l3 => asI .u8 v2 fun n4 => unc l3 fun v5 l6 => asI .i64 v5 fun n7 => unc l6 fun v8 l9 => asI .i64 v8 fun n10 =>
 unc l9 fun v11 l12 => asB v11 fun b13 => unc l12 fun v14 l15 => asS v14 fun l16 => unc l15 fun v17 l18 => unc l18 fun v19 l20 => un0 l20 (asOne v17 (asOne v19 (fit1 v17 fun v21 => fit1 v19 fun v22 => letSt (St.add st
 (VM.Obj.cells 63 [AV.int .u8 0, AV.int .i64 0, AV.int .i64 0, AV.bool false, AV.str [], AV.nils, AV.nils])) fun st23 => letSt (St.add st23 (VM.Obj.cells 63 [AV.int .u8 0, AV.int .i64 0, AV.int .i64 0, AV.bool false,
 AV.str [], AV.nils, AV.nils])) fun st25 => asOne v21 (asOne v22 (storeS (orc vE) 7 (AV.mp (St.h st23) 0) (AV.agg [AV.int .u8 n4, AV.int .i64 n7, AV.int .i64 n10, AV.bool b13, AV.str l16, v21, v22]) [AV.int .u8 n4,
 AV.int .i64 n7, AV.int .i64 n10, AV.bool b13, AV.str l16, v21, v22] st25 fun _x st27 _x_1 => bindO (ifB (n4 == 1) (bindO (chk (notNil x0) (fldA 5 x0 fun v29 => loadS 1 false v29 st27 fun v30 _x => asI .i64 v30 fun n32
 => chk (notNil x0) (fldA 0 x0 fun v33 => fldA 1 v33 fun v34 => loadS 1 false v34 st27 fun v35 _x => lenS v35 fun k37 => ifB (decide (n32 < (↑k37 : Int))) (chk (notNil x0) (fldA 0 x0 fun v38 => fldA 1 v38 fun v39 =>
 loadS 1 false v39 st27 fun v40 _x => chk (notNil x0) (fldA 5 x0 fun v42 => loadS 1 false v42 st27 fun v43 _x => asI .i64 v43 fun n45 => idxA 4 v40 n45 st27 fun v46 _x => fldA 3 v46 fun v48 => loadS 1 false v48 st27 fun
 v49 _x => asI .i64 v49 fun n51 => ifB (decide (n51 ≥ 0)) (chk (notNil x0) (fldA 0 x0 fun v52 => fldA 1 v52 fun v53 => loadS 1 false v53 st27 fun v54 _x => chk (notNil x0) (fldA 5 x0 fun v56 => loadS 1 false v56 st27 fun
 v57 _x => asI .i64 v57 fun n59 => idxA 4 v54 n59 st27 fun v60 _x => fldA 3 v60 fun v62 => loadS 1 false v62 st27 fun v63 _x => asI .i64 v63 fun n65 => chk (notNil x0) (fldA 3 x0 fun v66 => loadS 1 false v66 st27 fun v67
 _x => lenS v67 fun k69 => some ([AV.bool (decide (n65 < (↑k69 : Int)))], st27))))) (some ([AV.bool false], st27))))) (some ([AV.bool false], st27))))) fun c70 => unc (Prod.fst c70) fun v71 l72 => asB v71 fun b73 => un0
 l72 (bindO (ifB b73 (chk (notNil x0) (fldA 3 x0 fun v74 => loadS 1 false v74 (Prod.snd c70) fun v75 _x => chk (notNil x0) (fldA 0 x0 fun v77 => fldA 1 v77 fun v78 => loadS 1 false v78 (Prod.snd c70) fun v79 _x => chk
 (notNil x0) (fldA 5 x0 fun v81 => loadS 1 false v81 (Prod.snd c70) fun v82 _x => asI .i64 v82 fun n84 => idxA 4 v79 n84 (Prod.snd c70) fun v85 _x => fldA 3 v85 fun v87 => loadS 1 false v87 (Prod.snd c70) fun v88 _x =>
 asI .i64 v88 fun n90 => idxA 1 v75 n90 (Prod.snd c70) fun v91 _x => loadS 1 false v91 (Prod.snd c70) fun v93 _x => asS v93 fun l95 => storeS (orc vE) 1 (AV.mp (St.h st23) 4) (AV.str l95) [AV.str l95] (Prod.snd c70) fun
 _x st97 _x_2 => some ([], st97))))) (some ([], Prod.snd c70))) fun c99 => un0 (Prod.fst c99) (chk (notNil x0) (fldA 5 x0 fun v100 => loadS 1 false v100 (Prod.snd c99) fun v101 _x => asI .i64 v101 fun n103 => letV
 (IntKind.wrap .i64 (n103 + 1)) fun n104 => chk (notNil x0) (fldA 5 x0 fun v105 => storeS (orc vE) 1 v105 (AV.int .i64 n104) [AV.int .i64 n104] (Prod.snd c99) fun _x st107 _x_2 => some ([], st107)))))) (some ([], st27)))
 fun c109 => un0 (Prod.fst c109) (ifB (n4 == 13) (storeS (orc vE) 1 (AV.mp (St.h st23) 5) AV.nils [AV.nils] (Prod.snd c109) fun _x st111 _x_2 => lenS v22 fun k113 => letV (if (↑k113 : Int) < 1 then (↑k113 : Int) else 1)
 fun n114 => sliceS 7 v22 none (some n114) none fun v115 => callS (orc vE) 45 [x0, v115] st111 fun v116 st117 _x => asOne v116 (asOne v116 (storeS (orc vE) 1 (AV.mp (St.h st23) 6) v116 [v116] st117 fun _x st120 _x_3 =>
 bindO (loopO (w32_L1 x0 v21 v22 st23) ([AV.int .i64 0], st120)) fun c216 => un0 (Prod.fst (Prod.snd c216)) (loadS 7 true (AV.mp (St.h st23) 0) (Prod.snd (Prod.snd c216)) fun v217 _x => unA v217 fun l220 => unc l220 fun
 v221 l222 => asI .u8 v221 fun n223 => unc l222 fun v224 l225 => asI .i64 v224 fun n226 => unc l225 fun v227 l228 => asI .i64 v227 fun n229 => unc l228 fun v230 l231 => asB v230 fun b232 => unc l231 fun v233 l234 => asS
 v233 fun l235 => unc l234 fun v236 l237 => unc l237 fun v238 l239 => un0 l239 (asOne v236 (asOne v238 (storeS (orc vE) 7 (AV.mp (St.h st) 0) (AV.agg [AV.int .u8 n223, AV.int .i64 n226, AV.int .i64 n229, AV.bool b232,
 AV.str l235, v236, v238]) [AV.int .u8 n223, AV.int .i64 n226, AV.int .i64 n229, AV.bool b232, AV.str l235, v236, v238] (Prod.snd (Prod.snd c216)) fun _x st241 _x_4 => loadS 7 true (AV.mp (St.h st) 0) st241 fun v243 _x
 => unA v243 fun l246 => unc l246 fun v247 l248 => asI .u8 v247 fun n249 => unc l248 fun v250 l251 => asI .i64 v250 fun n252 => unc l251 fun v253 l254 => asI .i64 v253 fun n255 => unc l254 fun v256 l257 => asB v256 fun
 b258 => unc l257 fun v259 l260 => asS v259 fun l261 => unc l260 fun v262 l263 => unc l263 fun v264 l265 => un0 l265 (some (AV.agg [AV.int .u8 n249, AV.int .i64 n252, AV.int .i64 n255, AV.bool b258, AV.str l261, v262,
 v264], st241))))))))) (bindO (ifB (n4 == 11) (some ([AV.bool true], Prod.snd c109)) (some ([AV.bool (n4 == 14)], Prod.snd c109))) fun c266 => unc (Prod.fst c266) fun v267 l268 => asB v267 fun b269 => un0 l268 (bindO
 (ifB b269 (callS (orc vE) 31 [x0, v21] (Prod.snd c266) fun v270 st271 _x => asOne v270 (asOne v270 (storeS (orc vE) 1 (AV.mp (St.h st23) 5) v270 [v270] st271 fun _x st274 _x_2 => some ([], st274)))) (some ([], Prod.snd
 c266))) fun c276 => un0 (Prod.fst c276) (callS (orc vE) 45 [x0, v22] (Prod.snd c276) fun v277 st278 _x => asOne v277 (asOne v277 (storeS (orc vE) 1 (AV.mp (St.h st23) 6) v277 [v277] st278 fun _x st281 _x_2 => loadS 7
 true (AV.mp (St.h st23) 0) st281 fun v283 _x => unA v283 fun l286 => unc l286 fun v287 l288 => asI .u8 v287 fun n289 => unc l288 fun v290 l291 => asI .i64 v290 fun n292 => unc l291 fun v293 l294 => asI .i64 v293 fun
 n295 => unc l294 fun v296 l297 => asB v296 fun b298 => unc l297 fun v299 l300 => asS v299 fun l301 => unc l300 fun v302 l303 => unc l303 fun v304 l305 => un0 l305 (asOne v302 (asOne v304 (storeS (orc vE) 7 (AV.mp (St.h
 st) 0) (AV.agg [AV.int .u8 n289, AV.int .i64 n292, AV.int .i64 n295, AV.bool b298, AV.str l301, v302, v304]) [AV.int .u8 n289, AV.int .i64 n292, AV.int .i64 n295, AV.bool b298, AV.str l301, v302, v304] st281 fun _x
 st307 _x_3 => loadS 7 true (AV.mp (St.h st) 0) st307 fun v309 _x => unA v309 fun l312 => unc l312 fun v313 l314 => asI .u8 v313 fun n315 => unc l314 fun v316 l317 => asI .i64 v316 fun n318 => unc l317 fun v319 l320 =>
 asI .i64 v319 fun n321 => unc l320 fun v322 l323 => asB v322 fun b324 => unc l323 fun v325 l326 => asS v325 fun l327 => unc l326 fun v328 l329 => unc l329 fun v330 l331 => un0 l331 (some (AV.agg [AV.int .u8 n315, AV.int
 .i64 n318, AV.int .i64 n321, AV.bool b324, AV.str l327, v328, v330], st307))))))))))))))))
theorem w32_eq (x0 x1 : AV) (st : St) : wideS vE 32 [x0, x1] st = w32 x0 x1 st := by kernel_rfl
/-- (*rostrum/scope.maker).binders -/
noncomputable def w33_L1 (x1 : AV) (st6 : St) (k12 : Nat) : Car → Option (Car ⊕ Nat × Car) := fun c13 => unc (Prod.fst c13) fun v14 l15 => asI .i64 v14 fun n16 => un0 l15 (ifB (decide (n16 < (↑k12 : Int))) (idxA 6 x1
 n16 (Prod.snd c13) fun v17 _x => loadS 6 true v17 (Prod.snd c13) fun v19 _x => unA v19 fun l22 => unc l22 fun v23 l24 => asI .u8 v23 fun n25 => unc l24 fun v26 l27 => asI .u8 v26 fun n28 => unc l27 fun v29 l30 => asI
 .i64 v29 fun n31 => unc l30 fun v32 l33 => asI .i64 v32 fun n34 => unc l33 fun v35 l36 => asS v35 fun l37 => unc l36 fun v38 l39 => un0 l39 (letSt (St.add (Prod.snd c13) (VM.Obj.cells 101 [AV.int .u8 0, AV.int .u8 0,
 AV.int .i64 0, AV.int .i64 0, AV.str [], AV.nils])) fun st40 => asOne v38 (storeS (orc vE) 6 (AV.mp (St.h (Prod.snd c13)) 0) (AV.agg [AV.int .u8 n25, AV.int .u8 n28, AV.int .i64 n31, AV.int .i64 n34, AV.str l37, v38])
 [AV.int .u8 n25, AV.int .u8 n28, AV.int .i64 n31, AV.int .i64 n34, AV.str l37, v38] st40 fun _x st42 _x_1 => loadS 1 false (AV.mp (St.h st6) 0) st42 fun v44 _x => loadS 6 true (AV.mp (St.h (Prod.snd c13)) 0) st42 fun
 v46 _x => unA v46 fun l49 => unc l49 fun v50 l51 => asI .u8 v50 fun n52 => unc l51 fun v53 l54 => asI .u8 v53 fun n55 => unc l54 fun v56 l57 => asI .i64 v56 fun n58 => unc l57 fun v59 l60 => asI .i64 v59 fun n61 => unc
 l60 fun v62 l63 => asS v62 fun l64 => unc l63 fun v65 l66 => un0 l66 (callF (orc vE) (Sx.prim (sx vE 33)) v44 [AV.agg [AV.int .u8 n52, AV.int .u8 n55, AV.int .i64 n58, AV.int .i64 n61, AV.str l64, v65]] st42 fun _x st68
 _x_2 => letV (IntKind.wrap .i64 (n16 + 1)) fun n70 => some (Sum.inl ([AV.int .i64 n70], st68)))))) (some (Sum.inr (0, [], Prod.snd c13))))
noncomputable def w33 : AV → AV → AV → St → Option (AV × St) := fun x0 x1 x2 st => asOne x0 (asOne x0 (letSt (St.add st (VM.Obj.cells 67 [x0])) fun st0 => letSt (St.add st0 (VM.Obj.map [])) fun st1 => asOne x2 (asOne x2
 (letSt (St.add st1 (VM.Obj.cells 105 [AV.mm (St.h st0), x2])) fun st3 => letSt (St.add st3 (VM.Obj.cells 70 [AV.nilp])) fun st4 => storeS (orc vE) 1 (AV.mp (St.h st3) 0) (AV.mp (St.h st1) 0) [AV.mp (St.h st1) 0] st4 fun
 _x st6 _x_1 => letSt (St.add st6 (VM.Obj.cells 122 [AV.nilfn])) fun st8 => storeS (orc vE) 1 (AV.mp (St.h st6) 0) (AV.fn (Fn.func 46) [] [AV.mp (St.h st) 0, AV.mp (St.h st3) 0, AV.mp (St.h st6) 0]) [AV.fn (Fn.func 46)
 [] [AV.mp (St.h st) 0, AV.mp (St.h st3) 0, AV.mp (St.h st6) 0]] st8 fun _x st10 _x_2 => lenS x1 fun k12 => bindO (loopO (w33_L1 x1 st6 k12) ([AV.int .i64 0], st10)) fun c71 => un0 (Prod.fst (Prod.snd c71)) (loadS 1
 false (AV.mp (St.h st3) 0) (Prod.snd (Prod.snd c71)) fun v72 _x => some (oneOf [v72], Prod.snd (Prod.snd c71)))))))
theorem w33_eq (x0 x1 x2 : AV) (st : St) : wideS vE 33 [x0, x1, x2] st = w33 x0 x1 x2 st := by kernel_rfl
/-- (*rostrum/scope.frame).find -/
noncomputable def l34_L1 (l0 : List UInt8) : Car → Option (Car ⊕ Nat × Car) := fun c1 => unc (Prod.fst c1) fun v2 l3 => asI .i64 v2 fun n4 => unc l3 fun v5 l6 => un0 l6 (nilS (U.ptr 105) v5 AV.nilp fun b7 => ifB (!b7)
 (chk (notNil v5) (fldA 0 v5 fun v8 => loadS 1 false v8 (Prod.snd c1) fun v9 _x => planS (orc vE) (lookupP (Env.T vE) 103 v9 (AV.str l0) true) (Prod.snd c1) fun v11 st12 _x => unT v11 fun l14 => nthS l14 0 fun v15 => asI
 .i64 v15 fun n16 => unT v11 fun l17 => nthS l17 1 fun v18 => asB v18 fun b19 => ifB b19 (some (Sum.inr (1, [AV.int .i64 n16], st12))) (chk (notNil v5) (fldA 1 v5 fun v20 => loadS 1 false v20 st12 fun v21 _x => some
 (Sum.inl ([AV.int .i64 n4, v21], st12)))))) (some (Sum.inr (0, [AV.int .i64 n4], Prod.snd c1))))
noncomputable def l34 : AV → AV → St → Option AV := fun x0 x1 st => asS x1 fun l0 => bindO (loopO (l34_L1 l0) ([AV.int .i64 0, x0], St.mk (St.h st) (St.h st) (St.objs st))) fun c23 => unc (Prod.fst (Prod.snd c23)) fun
 v24 l25 => asI .i64 v24 fun n26 => un0 l25 (sel2 (Prod.fst c23) (callS (orc vE) 47 [AV.sl 1 [AV.str [110, 111, 116], AV.str [102, 115, 116], AV.str [115, 110, 100], AV.str [102, 108, 111, 97, 116]] Perm.shut, AV.str l0]
 (Prod.snd (Prod.snd c23)) fun v27 _x _x_1 => asB v27 fun b30 => ifB b30 (some (AV.int .i64 (-2))) (some (AV.int .i64 (-1)))) fun _x => some (AV.int .i64 n26))
theorem l34_eq (x0 x1 : AV) (st : St) : lookS vE 34 [x0, x1] st = l34 x0 x1 st := by kernel_rfl
/-- (*rostrum/scope.frame).find -/
noncomputable def g34_L1 (l0 : List UInt8) : Car → Option (Car ⊕ Nat × Car) := fun c1 => unc (Prod.fst c1) fun v2 l3 => asI .i64 v2 fun n4 => unc l3 fun v5 l6 => un0 l6 (nilS (U.ptr 105) v5 AV.nilp fun b7 => ifB (!b7)
 (chk (notNil v5) (fldA 0 v5 fun v8 => loadS 1 false v8 (Prod.snd c1) fun v9 _x => planS (orc vE) (lookupP (Env.T vE) 103 v9 (AV.str l0) true) (Prod.snd c1) fun v11 st12 _x => unT v11 fun l14 => nthS l14 0 fun v15 => asI
 .i64 v15 fun n16 => unT v11 fun l17 => nthS l17 1 fun v18 => asB v18 fun b19 => ifB b19 (some (Sum.inr (1, [AV.int .i64 n16], st12))) (chk (notNil v5) (fldA 1 v5 fun v20 => loadS 1 false v20 st12 fun v21 _x => some
 (Sum.inl ([AV.int .i64 n4, v21], st12)))))) (some (Sum.inr (0, [AV.int .i64 n4], Prod.snd c1))))
noncomputable def g34 : AV → AV → Option AV := fun x0 x1 => asS x1 fun l0 => bindO (loopO (g34_L1 l0) ([AV.int .i64 0, x0], St.mk 0 0 Tr.leaf)) fun c23 => unc (Prod.fst (Prod.snd c23)) fun v24 l25 => asI .i64 v24 fun
 n26 => un0 l25 (sel2 (Prod.fst c23) (callS (orc vE) 47 [AV.sl 1 [AV.str [110, 111, 116], AV.str [102, 115, 116], AV.str [115, 110, 100], AV.str [102, 108, 111, 97, 116]] Perm.shut, AV.str l0] (Prod.snd (Prod.snd c23))
 fun v27 _x _x_1 => asB v27 fun b30 => ifB b30 (some (AV.int .i64 (-2))) (some (AV.int .i64 (-1)))) fun _x => some (AV.int .i64 n26))
theorem g34_eq (x0 x1 : AV) : bareS vE 34 [x0, x1] = g34 x0 x1 := by kernel_rfl
/-- (*rostrum/scope.maker).exprs -/
noncomputable def w35_L1 (x0 : AV) (x1 : AV) (x2 : AV) (k0 : Nat) : Car → Option (Car ⊕ Nat × Car) := fun c1 => unc (Prod.fst c1) fun v2 l3 => asI .i64 v2 fun n4 => un0 l3 (ifB (decide (n4 < (↑k0 : Int))) (idxA 7 x1 n4
 (Prod.snd c1) fun v5 _x => loadS 7 true v5 (Prod.snd c1) fun v7 _x => unA v7 fun l10 => unc l10 fun v11 l12 => asI .u8 v11 fun n13 => unc l12 fun v14 l15 => asI .i64 v14 fun n16 => unc l15 fun v17 l18 => asI .i64 v17
 fun n19 => unc l18 fun v20 l21 => asB v20 fun b22 => unc l21 fun v23 l24 => asS v23 fun l25 => unc l24 fun v26 l27 => unc l27 fun v28 l29 => un0 l29 (letSt (St.add (Prod.snd c1) (VM.Obj.cells 63 [AV.int .u8 0, AV.int
 .i64 0, AV.int .i64 0, AV.bool false, AV.str [], AV.nils, AV.nils])) fun st30 => asOne v26 (asOne v28 (storeS (orc vE) 7 (AV.mp (St.h (Prod.snd c1)) 0) (AV.agg [AV.int .u8 n13, AV.int .i64 n16, AV.int .i64 n19, AV.bool
 b22, AV.str l25, v26, v28]) [AV.int .u8 n13, AV.int .i64 n16, AV.int .i64 n19, AV.bool b22, AV.str l25, v26, v28] st30 fun _x st32 _x_1 => loadS 7 true (AV.mp (St.h (Prod.snd c1)) 0) st32 fun v34 _x => unA v34 fun l37
 => unc l37 fun v38 l39 => asI .u8 v38 fun n40 => unc l39 fun v41 l42 => asI .i64 v41 fun n43 => unc l42 fun v44 l45 => asI .i64 v44 fun n46 => unc l45 fun v47 l48 => asB v47 fun b49 => unc l48 fun v50 l51 => asS v50 fun
 l52 => unc l51 fun v53 l54 => unc l54 fun v55 l56 => un0 l56 (callS (orc vE) 23 [x0, AV.agg [AV.int .u8 n40, AV.int .i64 n43, AV.int .i64 n46, AV.bool b49, AV.str l52, v53, v55], x2] st32 fun _x st58 _x_2 => letV
 (IntKind.wrap .i64 (n4 + 1)) fun n60 => some (Sum.inl ([AV.int .i64 n60], st58))))))) (some (Sum.inr (0, [], Prod.snd c1))))
noncomputable def w35 : AV → AV → AV → St → Option (AV × St) := fun x0 x1 x2 st => lenS x1 fun k0 => bindO (loopO (w35_L1 x0 x1 x2 k0) ([AV.int .i64 0], st)) fun c61 => un0 (Prod.fst (Prod.snd c61)) (some (AV.tup [],
 Prod.snd (Prod.snd c61)))
theorem w35_eq (x0 x1 x2 : AV) (st : St) : wideS vE 35 [x0, x1, x2] st = w35 x0 x1 x2 st := by kernel_rfl
/-- (*rostrum/rostrumlaw15.renamer).exprs -/
noncomputable def w45_L1 (x0 : AV) (x1 : AV) : Car → Option (Car ⊕ Nat × Car) := fun c0 => unc (Prod.fst c0) fun v1 l2 => unc l2 fun v3 l4 => asI .i64 v3 fun n5 => un0 l4 (lenS x1 fun k6 => ifB (decide (n5 < (↑k6 :
 Int))) (idxA 7 x1 n5 (Prod.snd c0) fun v7 _x => loadS 7 true v7 (Prod.snd c0) fun v9 _x => unA v9 fun l12 => unc l12 fun v13 l14 => asI .u8 v13 fun n15 => unc l14 fun v16 l17 => asI .i64 v16 fun n18 => unc l17 fun v19
 l20 => asI .i64 v19 fun n21 => unc l20 fun v22 l23 => asB v22 fun b24 => unc l23 fun v25 l26 => asS v25 fun l27 => unc l26 fun v28 l29 => unc l29 fun v30 l31 => un0 l31 (callS (orc vE) 32 [x0, AV.agg [AV.int .u8 n15,
 AV.int .i64 n18, AV.int .i64 n21, AV.bool b24, AV.str l27, v28, v30]] (Prod.snd c0) fun v32 st33 _x => unA v32 fun l36 => unc l36 fun v37 l38 => asI .u8 v37 fun n39 => unc l38 fun v40 l41 => asI .i64 v40 fun n42 => unc
 l41 fun v43 l44 => asI .i64 v43 fun n45 => unc l44 fun v46 l47 => asB v46 fun b48 => unc l47 fun v49 l50 => asS v49 fun l51 => unc l50 fun v52 l53 => unc l53 fun v54 l55 => un0 l55 (asOne v52 (asOne v54 (asOne v52
 (asOne v54 (fit1 v52 fun v56 => fit1 v54 fun v57 => asOne v56 (asOne v57 (fit1 v56 fun v58 => fit1 v57 fun v59 => appS 7 96 63 v1 [AV.agg [AV.int .u8 n39, AV.int .i64 n42, AV.int .i64 n45, AV.bool b48, AV.str l51, v58,
 v59]] st33 fun v60 st61 _x => letV (IntKind.wrap .i64 (n5 + 1)) fun n63 => some (Sum.inl ([v60, AV.int .i64 n63], st61))))))))))) (some (Sum.inr (0, [v1], Prod.snd c0))))
noncomputable def w45 : AV → AV → St → Option (AV × St) := fun x0 x1 st => bindO (loopO (w45_L1 x0 x1) ([AV.nils, AV.int .i64 0], st)) fun c64 => unc (Prod.fst (Prod.snd c64)) fun v65 l66 => un0 l66 (some (oneOf [v65],
 Prod.snd (Prod.snd c64)))
theorem w45_eq (x0 x1 : AV) (st : St) : wideS vE 45 [x0, x1] st = w45 x0 x1 st := by kernel_rfl
/-- (*rostrum/scope.maker).binders$1 -/
noncomputable def w46_L1 (x3 : AV) (v19 : AV) (k85 : Nat) : Car → Option (Car ⊕ Nat × Car) := fun c86 => unc (Prod.fst c86) fun v87 l88 => asI .i64 v87 fun n89 => un0 l88 (ifB (decide (n89 < (↑k85 : Int))) (idxA 6 v19
 n89 (Prod.snd c86) fun v90 _x => loadS 6 true v90 (Prod.snd c86) fun v92 _x => unA v92 fun l95 => unc l95 fun v96 l97 => asI .u8 v96 fun n98 => unc l97 fun v99 l100 => asI .u8 v99 fun n101 => unc l100 fun v102 l103 =>
 asI .i64 v102 fun n104 => unc l103 fun v105 l106 => asI .i64 v105 fun n107 => unc l106 fun v108 l109 => asS v108 fun l110 => unc l109 fun v111 l112 => un0 l112 (letSt (St.add (Prod.snd c86) (VM.Obj.cells 101 [AV.int .u8
 0, AV.int .u8 0, AV.int .i64 0, AV.int .i64 0, AV.str [], AV.nils])) fun st113 => asOne v111 (storeS (orc vE) 6 (AV.mp (St.h (Prod.snd c86)) 0) (AV.agg [AV.int .u8 n98, AV.int .u8 n101, AV.int .i64 n104, AV.int .i64
 n107, AV.str l110, v111]) [AV.int .u8 n98, AV.int .u8 n101, AV.int .i64 n104, AV.int .i64 n107, AV.str l110, v111] st113 fun _x st115 _x_1 => loadS 1 false x3 st115 fun v117 _x => loadS 6 true (AV.mp (St.h (Prod.snd
 c86)) 0) st115 fun v119 _x => unA v119 fun l122 => unc l122 fun v123 l124 => asI .u8 v123 fun n125 => unc l124 fun v126 l127 => asI .u8 v126 fun n128 => unc l127 fun v129 l130 => asI .i64 v129 fun n131 => unc l130 fun
 v132 l133 => asI .i64 v132 fun n134 => unc l133 fun v135 l136 => asS v135 fun l137 => unc l136 fun v138 l139 => un0 l139 (callF (orc vE) (Sx.prim (sx vE 46)) v117 [AV.agg [AV.int .u8 n125, AV.int .u8 n128, AV.int .i64
 n131, AV.int .i64 n134, AV.str l137, v138]] st115 fun _x st141 _x_2 => letV (IntKind.wrap .i64 (n89 + 1)) fun n143 => some (Sum.inl ([AV.int .i64 n143], st141)))))) (some (Sum.inr (0, [], Prod.snd c86))))
noncomputable def w46 : AV → AV → AV → AV → St → Option (AV × St) := fun x0 x1 x2 x3 st => unA x0 fun l1 => unc l1 fun v2 l3 => asI .u8 v2 fun n4 => unc l3 fun v5 l6 => asI .u8 v5 fun _x => unc l6 fun v8 l9 => asI .i64
 v8 fun n10 => unc l9 fun v11 l12 => asI .i64 v11 fun n13 => unc l12 fun v14 l15 => asS v14 fun l16 => unc l15 fun v17 l18 => un0 l18 (asOne v17 (fit1 v17 fun v19 => bindO (ifB (n4 == 15) (loadS 1 false x1 st fun v20 _x
 => chk (notNil v20) (fldA 0 v20 fun v22 => fldA 0 v22 fun v23 => loadS 1 false v23 st fun v24 _x => lenS v24 fun k26 => loadS 1 false x2 st fun v27 _x => chk (notNil v27) (fldA 0 v27 fun v29 => loadS 1 false v29 st fun
 v30 _x => planS (orc vE) (lookupP (Env.T vE) 103 v30 (AV.str l16) true) st fun v32 st33 _x => unT v32 fun l35 => nthS l35 0 fun v36 => asI .i64 v36 fun _x => unT v32 fun l38 => nthS l38 1 fun v39 => asB v39 fun b40 =>
 bindO (ifB b40 (loadS 1 false x1 st33 fun v41 l42 => loadS 1 false x1 st33 fun v43 _x => chk (notNil v43) (fldA 0 v43 fun v45 => fldA 2 v45 fun v46 => loadS 1 false v46 st33 fun v47 _x => appS 1 8 3 v47 [AV.int .i64
 (↑k26 : Int)] st33 fun v49 st50 x51 => chk (apart (Fx.mk l42 Did.kept) x51 && true) (chk (notNil v41) (fldA 0 v41 fun v52 => fldA 2 v52 fun v53 => asOne v49 (asOne v49 (storeS (orc vE) 1 v53 v49 [v49] st50 fun _x st55
 _x_1 => some ([], st55))))))) (some ([], st33))) fun c57 => un0 (Prod.fst c57) (loadS 1 false x2 (Prod.snd c57) fun v58 _x => chk (notNil v58) (fldA 0 v58 fun v60 => loadS 1 false v60 (Prod.snd c57) fun v61 _x => planS
 (orc vE) (mapUpdateP (Env.T vE) 103 v61 (AV.str l16) (AV.int .i64 (↑k26 : Int))) (Prod.snd c57) fun _x st64 _x_1 => loadS 1 false x1 st64 fun v66 l67 => loadS 1 false x1 st64 fun v68 _x => chk (notNil v68) (fldA 0 v68
 fun v70 => fldA 0 v70 fun v71 => loadS 1 false v71 st64 fun v72 _x => appS 3 32 36 v72 [AV.agg [AV.str l16, AV.int .i64 n10, AV.int .i64 n13]] st64 fun v76 st77 x78 => chk (apart (Fx.mk l67 Did.kept) x78 && true) (chk
 (notNil v66) (fldA 0 v66 fun v79 => fldA 0 v79 fun v80 => asOne v76 (asOne v76 (storeS (orc vE) 1 v80 v76 [v76] st77 fun _x st82 _x_2 => some ([], st82))))))))))) (some ([], st))) fun c84 => un0 (Prod.fst c84) (lenS v19
 fun k85 => bindO (loopO (w46_L1 x3 v19 k85) ([AV.int .i64 0], Prod.snd c84)) fun c144 => un0 (Prod.fst (Prod.snd c144)) (some (AV.tup [], Prod.snd (Prod.snd c144))))))
theorem w46_eq (x0 x1 x2 x3 : AV) (st : St) : wideS vE 46 [x0, x1, x2, x3] st = w46 x0 x1 x2 x3 st := by kernel_rfl
/-- slices.Contains[[]string,string] -/
noncomputable def g47 : AV → AV → Option AV := fun x0 x1 => asS x1 fun l0 => callS (orc vE) 64 [x0, AV.str l0] (St.mk 0 0 Tr.leaf) fun v1 _x _x_1 => asI .i64 v1 fun n4 => some (AV.bool (decide (n4 ≥ 0)))
theorem g47_eq (x0 x1 : AV) : bareS vE 47 [x0, x1] = g47 x0 x1 := by kernel_rfl
/-- slices.Index[[]string,string] -/
noncomputable def g64_L1 (x0 : AV) (l0 : List UInt8) (k1 : Nat) : Car → Option (Car ⊕ Nat × Car) := fun c2 => unc (Prod.fst c2) fun v3 l4 => asI .i64 v3 fun n5 => unc l4 fun v6 l7 => asI .i64 v6 fun n8 => un0 l7 (ifB
 (decide (n8 < (↑k1 : Int))) (idxA 1 x0 n8 (Prod.snd c2) fun v9 _x => loadS 1 false v9 (Prod.snd c2) fun v11 _x => asS v11 fun l13 => ifB (l0 == l13) (some (Sum.inr (1, [AV.int .i64 n8], Prod.snd c2))) (letV
 (IntKind.wrap .i64 (n8 + 1)) fun n14 => some (Sum.inl ([AV.int .i64 n5, AV.int .i64 n14], Prod.snd c2)))) (some (Sum.inr (0, [AV.int .i64 n5], Prod.snd c2))))
noncomputable def g64 : AV → AV → Option AV := fun x0 x1 => asS x1 fun l0 => lenS x0 fun k1 => bindO (loopO (g64_L1 x0 l0 k1) ([AV.int .i64 0, AV.int .i64 0], St.mk 0 0 Tr.leaf)) fun c15 => unc (Prod.fst (Prod.snd c15))
 fun v16 l17 => asI .i64 v16 fun n18 => un0 l17 (sel2 (Prod.fst c15) (some (AV.int .i64 (-1))) fun _x => some (AV.int .i64 n18))
theorem g64_eq (x0 x1 : AV) : bareS vE 64 [x0, x1] = g64 x0 x1 := by kernel_rfl
end Go.Proofs.YtoopmjhdgkcleaaGreatDoor.Vm
/- Patterns, expressions, declarations, each with its value; how large they are is a number. -/
set_option maxRecDepth 100000
set_option linter.unusedSimpArgs false
namespace Go.Proofs.YtoopmjhdgkcleaaGreatDoor.Vm
open Go Go.VM Go.Proofs Go.Scope

mutual
def IsP : Pat → AV → Prop
  | .mk k lit sp nm ps, v => ∃ x es, v = .agg [.int .u8 (k : Int), .int .u8 (lit : Int), .int .i64 sp.1, .int .i64 sp.2, .str nm, x] ∧ IsSl 6 x es ∧ IsPs ps es
def IsPs : List Pat → List AV → Prop
  | [], es => es = []
  | p :: ps, es => ∃ v vs, es = v :: vs ∧ IsP p v ∧ IsPs ps vs
end
mutual
def IsE : Exr → AV → Prop
  | .mk k sp rc nm ps ls, v => ∃ x es y fs, v = .agg [.int .u8 (k : Int), .int .i64 sp.1, .int .i64 sp.2, .bool rc, .str nm, x, y] ∧ IsSl 6 x es ∧ IsPs ps es ∧ IsSl 7 y fs ∧ IsEs ls fs ∧ ps.length ≤ 100000000
def IsEs : List Exr → List AV → Prop
  | [], es => es = []
  | e :: l, es => ∃ v vs, es = v :: vs ∧ IsE e v ∧ IsEs l vs
end
def IsD (d : Bd) (v : AV) : Prop := ∃ x es be, v = .agg ([.int .i64 d.sp.1, .int .i64 d.sp.2, .bool d.rc, x] ++ be) ∧ IsSl 6 x es ∧ IsPs d.ps es ∧ IsE d.body (.agg be)
def IsDs : List Bd → List AV → Prop
  | [], es => es = []
  | d :: l, es => ∃ v vs, es = v :: vs ∧ IsD d v ∧ IsDs l vs
section
variable {p : Pat} {ps : List Pat} {e : Exr} {l : List Exr} {es : List AV} {v : AV}
theorem IsPs.nil : IsPs [] [] := by simp only [IsPs]
theorem IsPs.cons {vs : List AV} (h : IsP p v) (k : IsPs ps vs) : IsPs (p :: ps) (v :: vs) := by simp only [IsPs]; exact ⟨v, vs, rfl, h, k⟩
theorem IsEs.nil : IsEs [] [] := by simp only [IsEs]
theorem IsEs.cons {vs : List AV} (h : IsE e v) (k : IsEs l vs) : IsEs (e :: l) (v :: vs) := by simp only [IsEs]; exact ⟨v, vs, rfl, h, k⟩
theorem IsPs.len : ∀ {ps : List Pat} {es : List AV}, IsPs ps es → es.length = ps.length
  | [], _, h => by simp only [IsPs] at h; rw [h]; rfl
  | p :: ps, _, h => by
    simp only [IsPs] at h
    obtain ⟨v, vs, rfl, _, h⟩ := h
    simp [IsPs.len h]
theorem IsEs.len : ∀ {l : List Exr} {es : List AV}, IsEs l es → es.length = l.length
  | [], _, h => by simp only [IsEs] at h; rw [h]; rfl
  | e :: l, _, h => by
    simp only [IsEs] at h
    obtain ⟨v, vs, rfl, _, h⟩ := h
    simp [IsEs.len h]
theorem IsDs.len : ∀ {l : List Bd} {es : List AV}, IsDs l es → es.length = l.length
  | [], _, h => by simp only [IsDs] at h; rw [h]; rfl
  | e :: l, _, h => by
    simp only [IsDs] at h
    obtain ⟨v, vs, rfl, _, h⟩ := h
    simp [IsDs.len h]
theorem IsPs.drop : ∀ {ps : List Pat} {es : List AV} (i : Nat), IsPs ps es → IsPs (ps.drop i) (es.drop i)
  | ps, es, 0, h => by simpa using h
  | [], _, i + 1, h => by simp only [IsPs] at h; subst h; simp [IsPs]
  | p :: ps, _, i + 1, h => by
    simp only [IsPs] at h
    obtain ⟨v, vs, rfl, _, h⟩ := h
    simpa using IsPs.drop i h
theorem IsEs.drop : ∀ {l : List Exr} {es : List AV} (i : Nat), IsEs l es → IsEs (l.drop i) (es.drop i)
  | l, es, 0, h => by simpa using h
  | [], _, i + 1, h => by simp only [IsEs] at h; subst h; simp [IsEs]
  | e :: l, _, i + 1, h => by
    simp only [IsEs] at h
    obtain ⟨v, vs, rfl, _, h⟩ := h
    simpa using IsEs.drop i h
theorem IsDs.drop : ∀ {l : List Bd} {es : List AV} (i : Nat), IsDs l es → IsDs (l.drop i) (es.drop i)
  | l, es, 0, h => by simpa using h
  | [], _, i + 1, h => by simp only [IsDs] at h; subst h; simp [IsDs]
  | e :: l, _, i + 1, h => by
    simp only [IsDs] at h
    obtain ⟨v, vs, rfl, _, h⟩ := h
    simpa using IsDs.drop i h
theorem IsPs.take : ∀ {ps : List Pat} {es : List AV} (i : Nat), IsPs ps es → IsPs (ps.take i) (es.take i)
  | ps, es, 0, h => by simp [IsPs]
  | [], _, i + 1, h => by simp only [IsPs] at h; subst h; simp [IsPs]
  | p :: ps, _, i + 1, h => by
    simp only [IsPs] at h
    obtain ⟨v, vs, rfl, hp, h⟩ := h
    simp only [List.take_succ_cons]
    exact IsPs.cons hp (IsPs.take i h)
theorem IsEs.take : ∀ {l : List Exr} {es : List AV} (i : Nat), IsEs l es → IsEs (l.take i) (es.take i)
  | ps, es, 0, h => by simp [IsEs]
  | [], _, i + 1, h => by simp only [IsEs] at h; subst h; simp [IsEs]
  | p :: ps, _, i + 1, h => by
    simp only [IsEs] at h
    obtain ⟨v, vs, rfl, hp, h⟩ := h
    simp only [List.take_succ_cons]
    exact IsEs.cons hp (IsEs.take i h)
/-- The element there. -/
theorem IsPs.get {r : List Pat} {i : Nat} (h : IsPs ps es) (hd : ps.drop i = p :: r) : ∃ v, es[i]? = some v ∧ IsP p v ∧ i < ps.length := by
  have h1 := IsPs.drop i h
  rw [hd] at h1
  simp only [IsPs] at h1
  obtain ⟨v, vs, he, hp, _⟩ := h1
  exact ⟨v, (drop_cons he).1, hp, (drop_cons hd).2.2⟩
theorem IsEs.get {r : List Exr} {i : Nat} (h : IsEs l es) (hd : l.drop i = e :: r) : ∃ v, es[i]? = some v ∧ IsE e v ∧ i < l.length := by
  have h1 := IsEs.drop i h
  rw [hd] at h1
  simp only [IsEs] at h1
  obtain ⟨v, vs, he, hp, _⟩ := h1
  exact ⟨v, (drop_cons he).1, hp, (drop_cons hd).2.2⟩
theorem IsDs.get {l r : List Bd} {d : Bd} {i : Nat} (h : IsDs l es) (hd : l.drop i = d :: r) : ∃ v, es[i]? = some v ∧ IsD d v ∧ i < l.length := by
  have h1 := IsDs.drop i h
  rw [hd] at h1
  simp only [IsDs] at h1
  obtain ⟨v, vs, he, hp, _⟩ := h1
  exact ⟨v, (drop_cons he).1, hp, (drop_cons hd).2.2⟩
theorem IsP.opn {k lit : Nat} {sp : Sp} {nm : Tx} (h : IsP (.mk k lit sp nm ps) v) : ∃ x es, v = .agg [.int .u8 (k : Int), .int .u8 (lit : Int), .int .i64 sp.1, .int .i64 sp.2, .str nm, x] ∧ IsSl 6 x es ∧ IsPs ps es := by
  simpa only [IsP] using h
theorem IsE.opn {k : Nat} {sp : Sp} {rc : Bool} {nm : Tx} {ls : List Exr} (h : IsE (.mk k sp rc nm ps ls) v) : ∃ x es y fs, v = .agg [.int .u8 (k : Int), .int .i64 sp.1, .int .i64 sp.2, .bool rc, .str nm, x, y] ∧ IsSl 6 x es ∧ IsPs ps es ∧ IsSl 7 y fs ∧ IsEs ls fs := by
  simp only [IsE] at h
  obtain ⟨x, es, y, fs, h0, h1, h2, h3, h4, _⟩ := h
  exact ⟨x, es, y, fs, h0, h1, h2, h3, h4⟩
theorem IsE.few {k : Nat} {sp : Sp} {rc : Bool} {nm : Tx} {ls : List Exr} (h : IsE (.mk k sp rc nm ps ls) v) : ps.length ≤ 100000000 := by
  simp only [IsE] at h
  obtain ⟨x, es, y, fs, _, _, _, _, _, h5⟩ := h
  exact h5
end
/-- What a loop's turn comes to. -/
def Lp {σ β : Type} (I : σ → Prop) (Q : β → Prop) : Sum σ β → Prop
  | .inl s => I s
  | .inr b => Q b
theorem Goes.inl {σ β : Type} {I : σ → Prop} {Q : β → Prop} {s : σ} (h : I s) : Goes (some (Sum.inl s : Sum σ β)) (Lp I Q) := ⟨_, rfl, h⟩
theorem Goes.inr {σ β : Type} {I : σ → Prop} {Q : β → Prop} {b : β} (h : Q b) : Goes (some (Sum.inr b : Sum σ β)) (Lp I Q) := ⟨_, rfl, h⟩
/-- A loop that goes up. -/
theorem Goes.upto {σ β : Type} {Q : β → Prop} {F : σ → Option (Sum σ β)} {n : Nat} {I : Nat → σ → Prop} (step : ∀ i s, i < n → I i s → Goes (F s) (Lp (I (i + 1)) Q))
    (last : ∀ s, I n s → Goes (F s) (Lp (fun _ => False) Q)) : ∀ (k i : Nat) (s : σ), i + k = n → I i s → Goes (loopO F s) Q := by
  intro k
  induction k with
  | zero =>
    intro i s hi h
    obtain ⟨r, e, hr⟩ := last s (by rw [← show i = n by omega]; exact h)
    cases r with
    | inl s' => exact hr.elim
    | inr b => exact ⟨b, loopO_inr e, hr⟩
  | succ k ih =>
    intro i s hi h
    obtain ⟨r, e, hr⟩ := step i s (by omega) h
    cases r with
    | inl s' => rw [loopO_inl e]; exact ih (i + 1) s' (by omega) hr
    | inr b => exact ⟨b, loopO_inr e, hr⟩
@[simp] theorem notNil_mp (i o : Nat) : notNil (.mp i o) = true := id rfl
/-! A slice, whatever its end. -/
def IsW (z : Nat) (x : AV) (es : List AV) : Prop := IsSl z x es ∨ (es.length ≤ 9223372036854775807 ∧ ∃ k, x = .sl z es (.own k))
section
variable {β : Type} {z : Nat} {x : AV} {es : List AV}
theorem IsW.len (h : IsW z x es) (K : Nat → Option β) : lenS x K = K es.length := by
  rcases h with h | ⟨_, k, rfl⟩
  · exact h.len K
  · rfl
theorem IsW.elems (h : IsW z x es) (K : List AV → Option β) : elemsS x K = K es := by
  rcases h with h | ⟨_, k, rfl⟩
  · exact h.elems K
  · rfl
theorem IsW.one (h : IsW z x es) : VM.one x = true := by
  rcases h with h | ⟨_, k, rfl⟩
  · exact h.one
  · rfl
theorem IsW.asOne (h : IsW z x es) (K : Option β) : asOne x K = K := asOne_of h.one K
theorem IsW.idx (h : IsW z x es) {k : Nat} {v : AV} (hk : es[k]? = some v) (st : St) (K : AV → List Nat → Option β) : idxA z x (k : Int) st K = K (.ip v.cells) [] := by
  rcases h with h | ⟨_, j, rfl⟩
  · exact h.idx hk st K
  · have hlt := (List.getElem?_eq_some_iff.1 hk).1
    have hz : z.beq z = true := Nat.beq_refl z
    have hi : insideO ((k : Nat) : Int) es.length = some k := by
      show (match k.blt es.length with | true => some k | false => none) = _
      rw [blt_true.2 hlt]
    simp only [idxA, idxO, hz, hi, nthO_of hk, bindO_ok]
theorem IsW.le (h : IsW z x es) : es.length ≤ 9223372036854775807 := by
  rcases h with h | h
  · exact h.1
  · exact h.1
theorem _root_.Go.VM.Own.isW {st : St} {e : TypeId} (h : Own st z e x es) : IsW z x es := by
  rcases h.2.2 with h1 | h1 | ⟨k, h1, _⟩
  · exact .inl ⟨h.2.1, .inl h1⟩
  · exact .inl ⟨h.2.1, .inr (.inl h1)⟩
  · exact .inr ⟨h.2.1, k, h1⟩
theorem IsW.fit (h : IsW z x es) : ∃ x', IsSl z x' es ∧ ∀ {β : Type} (K : AV → Option β), fit1 x K = K x' := by
  rcases h with h | ⟨hl, k, rfl⟩
  · exact ⟨x, h, fun K => h.fit1 K⟩
  · exact ⟨_, IsSl.wide hl, fun K => rfl⟩
end
theorem callS_look {β : Type} {E : Env} {f : FuncId} {args : List AV} {v : AV} {st : St} (K : Kv β) (hl : E.isLook f = true) (hb : (bares (args.map strip) && !E.full f) = false) (h : (orc E).look f (args.map strip) st = some v) : callS (orc E) f args st K = K v st ⟨[], .looked⟩ := by
  have h1 : (orc E).isLook f = true := hl
  have h2 : (bares (args.map strip) && !(orc E).full f) = false := hb
  simp only [callS, outS, callO, h1, h2, h, bindO_ok]
theorem IsW.strip {z : Nat} {x : AV} {es : List AV} (h : IsW z x es) : IsSl z (VM.strip x) es := by
  rcases h with h | ⟨hl, k, rfl⟩
  · rw [h.strip]; exact h
  · exact IsSl.wide hl
/-- The store as who only looks has it. -/
abbrev lk (st : St) : St := St.mk st.h st.h st.objs
/-! What is kept but for some places, and for tokens. -/
structure Kt (but : Nat → Prop) (st st' : St) : Prop where
  ro : st'.ro = st.ro
  h : st.h ≤ st'.h
  old : ∀ j o, ¬ but j → (∀ n e, o ≠ .tok n e) → st.get j = .ok o → st'.get j = .ok o
section
variable {p q : Nat → Prop} {a b c : St}
theorem Kt.refl (p : Nat → Prop) (a : St) : Kt p a a := ⟨rfl, Nat.le_refl _, fun _ _ _ _ h => h⟩
theorem Kt.trans (h : Kt p a b) (k : Kt p b c) : Kt p a c := ⟨k.ro.trans h.ro, Nat.le_trans h.h k.h, fun j o hj ho hg => k.old j o hj ho (h.old j o hj ho hg)⟩
theorem Kt.weak (h : Kt p a b) (k : ∀ j, p j → q j) : Kt q a b := ⟨h.ro, h.h, fun j o hj ho hg => h.old j o (fun f => hj (k j f)) ho hg⟩
theorem Kt.join (h : Kt p a b) (k : Kt q b c) (hq : ∀ j, q j → p j ∨ a.h ≤ j) : Kt p a c := ⟨k.ro.trans h.ro, Nat.le_trans h.h k.h, fun j o hj ho hg => k.old j o (fun f => by
  rcases hq j f with h1 | h1
  · exact hj h1
  · have := (St.get_ok.1 hg).1
    omega) ho (h.old j o hj ho hg)⟩
theorem Kt.keeps (h : Keeps a b p) : Kt p a b := ⟨h.ro, h.h, fun j o hj _ hg => h.old j o hj hg⟩
theorem Kt.own {z : Nat} {e : TypeId} {v : AV} {es : List AV} (h : Keeps a b (ownerOf v)) (ho : Own a z e v es) : Kt p a b := ⟨h.ro, h.h, fun j o _ hn hg => h.old j o (fun ⟨z', es', hv⟩ => by
  subst hv
  rcases ho.2.2 with ⟨h1 | h1, _⟩ | h1 | ⟨k, h1, h2, _⟩
  · cases h1
  · cases h1
  · cases h1
  · cases h1
    rw [hg] at h2
    exact hn _ _ (Except.ok.inj h2)) hg⟩
theorem Kt.cells (h : Kt p a b) {i : Nat} {t : TypeId} {cs : List AV} (hi : ¬ p i) (hg : a.get i = .ok (.cells t cs)) : b.get i = .ok (.cells t cs) := h.old i _ hi (fun _ _ e => by cases e) hg
theorem Kt.map (h : Kt p a b) {i : Nat} {es : List (AV × AV)} (hi : ¬ p i) (hg : a.get i = .ok (.map es)) : b.get i = .ok (.map es) := h.old i _ hi (fun _ _ e => by cases e) hg
end
/-! What an append did lies apart from reading what else there is. -/
structure Fine (st : St) (x : Fx) : Prop where
  l0 : apart ⟨[], .kept⟩ x = true
  r0 : apart x ⟨[], .kept⟩ = true
  l : ∀ i t cs, st.get i = .ok (.cells t cs) → apart ⟨[i], .kept⟩ x = true
  r : ∀ i t cs, st.get i = .ok (.cells t cs) → apart x ⟨[i], .kept⟩ = true
theorem fine_q0 (st : St) : Fine st q0 := ⟨rfl, rfl, fun _ _ _ _ => rfl, fun _ _ _ _ => rfl⟩
theorem fine_made (st : St) (o : VM.Obj) : Fine st ⟨[], .made st.h o⟩ := by
  have key : ∀ (i : Nat) (t : TypeId) (cs : List AV), st.get i = .ok (.cells t cs) → (!([i] : List Nat).contains st.h) = true := fun i t cs hg => by
    have := (St.get_ok.1 hg).1
    simp; omega
  exact ⟨rfl, rfl, fun i t cs hg => key i t cs hg, fun i t cs hg => key i t cs hg⟩
theorem fine_wrote {st : St} {k n : Nat} {e : TypeId} (o : VM.Obj) (hk : st.get k = .ok (.tok n e)) : Fine st ⟨[k], .wrote k o⟩ := by
  have key : ∀ (i : Nat) (t : TypeId) (cs : List AV), st.get i = .ok (.cells t cs) → (!([i] : List Nat).contains k) = true := fun i t cs hg => by
    have : i ≠ k := by rintro rfl; rw [hk] at hg; cases hg
    simp; omega
  exact ⟨rfl, rfl, fun i t cs hg => key i t cs hg, fun i t cs hg => key i t cs hg⟩
theorem app_fine {st st' : St} {z b : Nat} {e : TypeId} {v v' : AV} {es new : List AV} {x : Fx} (h : Own st z e v es) (ha : appO z b e v new st = some (v', st', x)) : Fine st x := by
  cases new with
  | nil =>
    rcases h.2.2 with ⟨rfl | rfl, rfl⟩ | rfl | ⟨k, rfl, hg, hro⟩ <;> simp only [appO, Option.some.injEq, Prod.mk.injEq] at ha <;> rw [← ha.2.2] <;> exact fine_q0 st
  | cons w l =>
    rcases h.2.2 with ⟨rfl | rfl, rfl⟩ | rfl | ⟨k, rfl, hg, hro⟩
    · simp only [appO, madeO] at ha
      split at ha
      · simp only [Option.some.injEq, Prod.mk.injEq] at ha; rw [← ha.2.2]; exact fine_made st _
      · cases ha
    · simp only [appO, madeO] at ha
      split at ha
      · simp only [Option.some.injEq, Prod.mk.injEq] at ha; rw [← ha.2.2]; exact fine_made st _
      · cases ha
    · simp only [appO, madeO] at ha
      split at ha
      · simp only [Option.some.injEq, Prod.mk.injEq] at ha; rw [← ha.2.2]; exact fine_made st _
      · cases ha
    · simp only [appO, hg, wroteO] at ha
      split at ha
      · split at ha
        · split at ha
          · simp only [Option.some.injEq, Prod.mk.injEq] at ha; rw [← ha.2.2]; exact fine_wrote _ hg
          · cases ha
        · cases ha
      · cases ha
end Go.Proofs.YtoopmjhdgkcleaaGreatDoor.Vm
/- How large: a number. -/
set_option maxRecDepth 100000
set_option linter.unusedSimpArgs false
namespace Go.Proofs.YtoopmjhdgkcleaaGreatDoor.Vm
open Go Go.VM Go.Proofs Go.Scope

abbrev S0 : St := St.mk 0 0 Tr.leaf
theorem sl_len {n : Nat} (h : n ≤ 9223372036854775807) {i : Nat} (hi : i < n) : IntKind.wrap .i64 ((i : Int) + 1) = ((i + 1 : Nat) : Int) := wrapA1 (by omega)
theorem drop_at {α : Type} {l : List α} {i : Nat} (h : i < l.length) : ∃ a r, l.drop i = a :: r := ⟨l[i], l.drop (i + 1), List.drop_eq_getElem_cons h⟩
theorem callP1 {γ : Type} {F : FuncId} {z : Nat} {x : AV} {es : List AV} (hx : IsSl z x es) {v : AV} (h : (orc vE).bare F [x] = some v) (hf : vE.full F = false) (st : St) (K : Kv γ) : callS (orc vE) F [x] st K = K v st q0 :=
  callS_bare st K hf (by simp only [List.map_cons, List.map_nil, hx.strip]) (by simp only [bares_cons, hx.bare]; rfl) h
theorem sz_drop {α : Type} [SizeOf α] : ∀ (l : List α) (i : Nat), SizeOf.sizeOf (l.drop i) ≤ SizeOf.sizeOf l
  | [], i => by simp
  | a :: l, 0 => by simp
  | a :: l, i + 1 => by
    have := sz_drop l i
    simp only [List.drop_succ_cons, List.cons.sizeOf_spec]
    omega
theorem pats_ok : ∀ (n : Nat) (ps : List Pat) (es : List AV) (x : AV), SizeOf.sizeOf ps < n → IsPs ps es → IsSl 6 x es → Goes ((orc vE).bare 20 [x]) fun v => ∃ m, v = .int .i64 m := by
  intro n
  induction n with
  | zero => intro ps es x h; omega
  | succ n ih =>
    intro ps es x h hp hx
    have hlen := hx.1
    refine Goes.bare rfl (Goes.step (g20_eq _) ?_)
    unfold g20
    refine Goes.step (hx.len _) ?_
    refine Goes.bind (R := fun c => ∃ (k : Nat) (m : Int), c = (k, [.int .i64 m], S0)) (Goes.upto (n := es.length) (I := fun i s => ∃ m : Int, s = ([.int .i64 m, .int .i64 (i : Int)], S0)) ?_ ?_ es.length 0 _ (by omega) ⟨_, rfl⟩) ?_
    · rintro i s hi ⟨m, rfl⟩
      obtain ⟨p, r, hd⟩ := drop_at (l := ps) (i := i) (by rw [← hp.len]; exact hi)
      obtain ⟨v, hv, hP, _⟩ := hp.get hd
      cases p with
      | mk k lit sp nm qs =>
        obtain ⟨y, fs, rfl, hy, hq⟩ := hP.opn
        have hsz : SizeOf.sizeOf qs < n := by
          have h1 := sz_drop ps i
          rw [hd] at h1
          simp only [List.cons.sizeOf_spec, Pat.mk.sizeOf_spec] at h1
          omega
        obtain ⟨w, hw, m2, rfl⟩ := ih qs fs y hsz hq hy
        have hlt : (i : Int) < (es.length : Int) := by omega
        by_cases hm : m < 1000
        · simp only [g20_L1, unc_cons, asI_int, un0_nil, hx.len, ifB_decide, if_pos hlt, bindO_ok, asB_bool, if_pos hm, hx.idx hv, fldA_ip, AV.cells, List.drop_succ_cons, List.drop_zero, loadS_ip, takeO_one, callP1 hy hw rfl, apart_kept, apart_kept2, Bool.and_self, chk_true, letV_eq, asS_str, sl_len hlen hi]
          refine Goes.inl ?_
          exact ⟨_, rfl⟩
        · simp only [g20_L1, unc_cons, asI_int, un0_nil, hx.len, ifB_decide, if_pos hlt, bindO_ok, asB_bool, if_neg hm]
          refine Goes.inr ?_
          exact ⟨_, _, rfl⟩
    · rintro s ⟨m, rfl⟩
      have hlt : ¬ ((es.length : Nat) : Int) < (es.length : Int) := by omega
      simp only [g20_L1, unc_cons, asI_int, un0_nil, hx.len, ifB_decide, if_neg hlt, bindO_ok, asB_bool, ifB_false]
      refine Goes.inr ?_
      exact ⟨_, _, rfl⟩
    · rintro c ⟨k, m, rfl⟩
      simp only [unc_cons, asI_int, un0_nil]
      exact Goes.some ⟨_, rfl⟩
theorem exprs_ok : ∀ (n : Nat) (l : List Exr) (es : List AV) (x : AV), SizeOf.sizeOf l < n → IsEs l es → IsSl 7 x es → Goes ((orc vE).bare 21 [x]) fun v => ∃ m, v = .int .i64 m := by
  intro n
  induction n with
  | zero => intro l es x h; omega
  | succ n ih =>
    intro l es x h hp hx
    have hlen := hx.1
    refine Goes.bare rfl (Goes.step (g21_eq _) ?_)
    unfold g21
    refine Goes.step (hx.len _) ?_
    refine Goes.bind (R := fun c => ∃ (k : Nat) (m : Int), c = (k, [.int .i64 m], S0)) (Goes.upto (n := es.length) (I := fun i s => ∃ m : Int, s = ([.int .i64 m, .int .i64 (i : Int)], S0)) ?_ ?_ es.length 0 _ (by omega) ⟨_, rfl⟩) ?_
    · rintro i s hi ⟨m, rfl⟩
      obtain ⟨e, r, hd⟩ := drop_at (l := l) (i := i) (by rw [← hp.len]; exact hi)
      obtain ⟨v, hv, hE, _⟩ := hp.get hd
      cases e with
      | mk k sp rc nm qs ls =>
        obtain ⟨y, fs, z, hs, rfl, hy, hq, hz, hl⟩ := hE.opn
        have hsz : SizeOf.sizeOf ls < n := by
          have h1 := sz_drop l i
          rw [hd] at h1
          simp only [List.cons.sizeOf_spec, Exr.mk.sizeOf_spec] at h1
          omega
        obtain ⟨w, hw, m2, rfl⟩ := pats_ok _ qs fs y (Nat.lt_succ_self _) hq hy
        obtain ⟨w3, hw3, m3, rfl⟩ := ih ls hs z hsz hl hz
        have hlt : (i : Int) < (es.length : Int) := by omega
        by_cases hm : m < 1000
        · simp only [g21_L1, unc_cons, asI_int, un0_nil, hx.len, ifB_decide, if_pos hlt, bindO_ok, asB_bool, if_pos hm, hx.idx hv, fldA_ip, AV.cells, List.drop_succ_cons, List.drop_zero, loadS_ip, takeO_one, callP1 hy hw rfl, callP1 hz hw3 rfl, apart_kept, apart_kept2, Bool.and_self, chk_true, letV_eq, asS_str, sl_len hlen hi]
          refine Goes.inl ?_
          exact ⟨_, rfl⟩
        · simp only [g21_L1, unc_cons, asI_int, un0_nil, hx.len, ifB_decide, if_pos hlt, bindO_ok, asB_bool, if_neg hm]
          refine Goes.inr ?_
          exact ⟨_, _, rfl⟩
    · rintro s ⟨m, rfl⟩
      have hlt : ¬ ((es.length : Nat) : Int) < (es.length : Int) := by omega
      simp only [g21_L1, unc_cons, asI_int, un0_nil, hx.len, ifB_decide, if_neg hlt, bindO_ok, asB_bool, ifB_false]
      refine Goes.inr ?_
      exact ⟨_, _, rfl⟩
    · rintro c ⟨k, m, rfl⟩
      simp only [unc_cons, asI_int, un0_nil]
      exact Goes.some ⟨_, rfl⟩
theorem IsD.opn {d : Bd} {v : AV} (h : IsD d v) : ∃ (k : Nat) (sp : Sp) (rc : Bool) (nm : Tx) (qs : List Pat) (ls : List Exr) (x : AV) (es : List AV) (y : AV) (fs : List AV) (z : AV) (hs : List AV), d.body = .mk k sp rc nm qs ls ∧
    v = .agg [.int .i64 d.sp.1, .int .i64 d.sp.2, .bool d.rc, x, .int .u8 (k : Int), .int .i64 sp.1, .int .i64 sp.2, .bool rc, .str nm, y, z] ∧ IsSl 6 x es ∧ IsPs d.ps es ∧ IsSl 6 y fs ∧ IsPs qs fs ∧ IsSl 7 z hs ∧ IsEs ls hs ∧ IsE (.mk k sp rc nm qs ls) (.agg [.int .u8 (k : Int), .int .i64 sp.1, .int .i64 sp.2, .bool rc, .str nm, y, z]) := by
  obtain ⟨x, es, be, rfl, hx, hp, hb⟩ := h
  cases hd : d.body with
  | mk k sp rc nm qs ls =>
    rw [hd] at hb
    obtain ⟨y, fs, z, hs, he, hy, hq, hz, hl⟩ := hb.opn
    injection he with he
    subst he
    exact ⟨k, sp, rc, nm, qs, ls, x, es, y, fs, z, hs, rfl, rfl, hx, hp, hy, hq, hz, hl, hb⟩
theorem large_ok {l : List Bd} {es : List AV} {x : AV} (hp : IsDs l es) (hx : IsSl 11 x es) : Goes ((orc vE).bare 8 [x]) fun v => ∃ b, v = .bool b := by
  have hlen := hx.1
  refine Goes.bare rfl (Goes.step (g8_eq _) ?_)
  unfold g8
  refine Goes.step (hx.len _) ?_
  refine Goes.bind (R := fun c => ∃ (k : Nat) (m : Int), c = (k, [.int .i64 m], S0)) (Goes.upto (n := es.length) (I := fun i s => ∃ m : Int, s = ([.int .i64 m, .int .i64 (i : Int)], S0)) ?_ ?_ es.length 0 _ (by omega) ⟨_, rfl⟩) ?_
  · rintro i s hi ⟨m, rfl⟩
    obtain ⟨d, r, hd⟩ := drop_at (l := l) (i := i) (by rw [← hp.len]; exact hi)
    obtain ⟨v, hv, hD, _⟩ := hp.get hd
    obtain ⟨k, sp, rc, nm, qs, ls, x1, es1, y, fs, z, hs, hb, rfl, hx1, hp1, hy, hq, hz, hl, hE⟩ := hD.opn
    obtain ⟨w, hw, m2, rfl⟩ := pats_ok _ d.ps es1 x1 (Nat.lt_succ_self _) hp1 hx1
    have hone : IsSl 7 (.sl 7 [.agg [.int .u8 (k : Int), .int .i64 sp.1, .int .i64 sp.2, .bool rc, .str nm, y, z]] .shut) [.agg [.int .u8 (k : Int), .int .i64 sp.1, .int .i64 sp.2, .bool rc, .str nm, y, z]] := IsSl.shut (Nat.le_of_ble_eq_true rfl)
    obtain ⟨w3, hw3, m3, rfl⟩ := exprs_ok _ _ _ _ (Nat.lt_succ_self _) (IsEs.cons hE IsEs.nil) hone
    have hlt : (i : Int) < (es.length : Int) := by omega
    have d3 : takeO 7 true [.int .u8 (k : Int), .int .i64 sp.1, .int .i64 sp.2, .bool rc, .str nm, y, z] = some (.agg [.int .u8 (k : Int), .int .i64 sp.1, .int .i64 sp.2, .bool rc, .str nm, y, z]) := takeO_all rfl
    by_cases hm : m < 400
    · simp only [g8_L1, unc_cons, asI_int, un0_nil, hx.len, ifB_decide, if_pos hlt, bindO_ok, asB_bool, if_pos hm, hx.idx hv, fldA_ip, AV.cells, List.drop_succ_cons, List.drop_zero, loadS_ip, takeO_one, callP1 hx1 hw rfl, d3, unA_agg, hy.asOne, hz.asOne, hy.fit1, hz.fit1, callP1 hone hw3 rfl, apart_kept, apart_kept2, Bool.and_self, chk_true, letV_eq, asS_str, sl_len hlen hi]
      refine Goes.inl ?_
      exact ⟨_, rfl⟩
    · simp only [g8_L1, unc_cons, asI_int, un0_nil, hx.len, ifB_decide, if_pos hlt, bindO_ok, asB_bool, if_neg hm]
      refine Goes.inr ?_
      exact ⟨_, _, rfl⟩
  · rintro s ⟨m, rfl⟩
    have hlt : ¬ ((es.length : Nat) : Int) < (es.length : Int) := by omega
    simp only [g8_L1, unc_cons, asI_int, un0_nil, hx.len, ifB_decide, if_neg hlt, bindO_ok, asB_bool, ifB_false]
    refine Goes.inr ?_
    exact ⟨_, _, rfl⟩
  · rintro c ⟨k, m, rfl⟩
    simp only [unc_cons, asI_int, un0_nil]
    exact Goes.some ⟨_, rfl⟩
end Go.Proofs.YtoopmjhdgkcleaaGreatDoor.Vm
/- A table in the store; what is alike in the program's walk and the document's. -/
set_option maxRecDepth 100000
set_option linter.unusedSimpArgs false
namespace Go.Proofs.YtoopmjhdgkcleaaGreatDoor.Vm
open Go Go.VM Go.Proofs Go.Scope

def encB (l : List (Tx × Sp)) : List AV := l.map fun b => .agg [.str b.1, .int .i64 b.2.1, .int .i64 b.2.2]
def encU (l : List (Tx × Sp × Int)) : List AV := l.map fun u => .agg [.str u.1, .int .i64 u.2.1.1, .int .i64 u.2.1.2, .int .i64 u.2.2]
def encN (l : List Nat) : List AV := l.map fun (n : Nat) => .int .i64 (n : Int)
theorem encB_app (l m : List (Tx × Sp)) : encB (l ++ m) = encB l ++ encB m := List.map_append
theorem encU_app (l m : List (Tx × Sp × Int)) : encU (l ++ m) = encU l ++ encU m := List.map_append
theorem encN_app (l m : List Nat) : encN (l ++ m) = encN l ++ encN m := List.map_append
theorem encB_len (l : List (Tx × Sp)) : (encB l).length = l.length := List.length_map _
theorem encU_len (l : List (Tx × Sp × Int)) : (encU l).length = l.length := List.length_map _
theorem encN_len (l : List Nat) : (encN l).length = l.length := List.length_map _
theorem encB_get {l : List (Tx × Sp)} {i : Nat} {b : Tx × Sp} (h : l[i]? = some b) : (encB l)[i]? = some (.agg [.str b.1, .int .i64 b.2.1, .int .i64 b.2.2]) := by
  unfold encB; rw [List.getElem?_map, h]; rfl
theorem encU_get {l : List (Tx × Sp × Int)} {i : Nat} {u : Tx × Sp × Int} (h : l[i]? = some u) : (encU l)[i]? = some (.agg [.str u.1, .int .i64 u.2.1.1, .int .i64 u.2.1.2, .int .i64 u.2.2]) := by
  unfold encU; rw [List.getElem?_map, h]; rfl
/-- Of a size that a machine bears. -/
structure Sm (t : Tb) : Prop where
  bs : t.bs.length ≤ 10000000
  us : t.us.length ≤ 10000000
  tw : t.tw.length ≤ 10000000
theorem Sm.ext {t u : Tb} (h : Sm u) (e : Ext t u) : Sm t := by
  obtain ⟨⟨x, h1⟩, ⟨y, h2⟩, ⟨z, h3⟩⟩ := e
  obtain ⟨k1, k2, k3⟩ := h
  rw [h1, List.length_append] at k1
  rw [h2, List.length_append] at k2
  rw [h3, List.length_append] at k3
  exact ⟨by omega, by omega, by omega⟩
structure Td (TT TB TU TI : TypeId) (st : St) (a : Nat) (t : Tb) : Prop where
  ne : TB ≠ TU ∧ TB ≠ TI ∧ TU ≠ TI
  ro : st.ro ≤ a
  ex : ∃ xb xu xt, st.get a = .ok (.cells TT [xb, xu, xt]) ∧ Own st 3 TB xb (encB t.bs) ∧ Own st 4 TU xu (encU t.us) ∧ Own st 1 TI xt (encN t.tw)
section
variable {TT TB TU TI : TypeId} {st st' : St} {a : Nat} {t : Tb} {xb xu xt : AV}
theorem Td.roh (w : Td TT TB TU TI st a t) : st.ro ≤ st.h := by
  obtain ⟨xb, xu, xt, _, o, _⟩ := w.ex
  exact o.1
theorem Td.lt (w : Td TT TB TU TI st a t) : a < st.h := by
  obtain ⟨xb, xu, xt, h, _⟩ := w.ex
  exact (St.get_ok.1 h).1
theorem Td.pushB (w : Td TT TB TU TI st a t) (hl : t.bs.length ≤ 100000000) (nm : Tx) (sp : Sp) (hg : st.get a = .ok (.cells TT [xb, xu, xt])) (ob : Own st 3 TB xb (encB t.bs)) (ou : Own st 4 TU xu (encU t.us)) (ot : Own st 1 TI xt (encN t.tw)) :
    ∃ v' s1 fx s2 fx2, Fine st fx ∧ VM.one v' = true ∧ Td TT TB TU TI s2 a ⟨t.bs ++ [(nm, sp)], t.us, t.tw⟩ ∧ Kt (· = a) st s2 ∧ (∀ {β : Type} (K : Kv β), appS 3 32 TB xb [.agg [.str nm, .int .i64 sp.1, .int .i64 sp.2]] st K = K v' s1 fx) ∧
      ∀ {β : Type} (K : Kv β), storeS (orc vE) 1 (.mp a 0) v' [v'] s1 K = K VM.undef s2 fx2 := by
  obtain ⟨v', s1, fx, e1, o1, k1, _⟩ := app_own (b := 32) (new := [.agg [.str nm, .int .i64 sp.1, .int .i64 sp.2]]) ob (by simp) (room_of (by rw [encB_len]; simp; omega) (by omega) (by omega))
  have g1 := k1.old a _ (ob.not hg) hg
  have ou1 := own_keep ou k1 (own_two ou ob w.ne.1.symm)
  have ot1 := own_keep ot k1 (own_two ot ob w.ne.2.1.symm)
  have hro : s1.ro ≤ a := by rw [k1.ro]; exact w.ro
  refine ⟨v', s1, fx, s1.put a (.cells TT [v', xu, xt]), _, app_fine ob e1, o1.one, ⟨w.ne, hro, v', xu, xt, St.get_put_same (St.get_ok.1 g1).1, ?_, ou1.put g1, ot1.put g1⟩, (Kt.own k1 ob).trans (Kt.keeps (Keeps.put rfl)), fun K => appS_of e1 K, fun K => storeS_at (cs := [v']) (z := 1) g1 rfl (Nat.le_of_ble_eq_true rfl) hro K⟩
  rw [encB_app]
  exact o1.put g1
theorem Td.pushU (w : Td TT TB TU TI st a t) (hl : t.us.length ≤ 100000000) (nm : Tx) (sp : Sp) (k : Int) (hg : st.get a = .ok (.cells TT [xb, xu, xt])) (ob : Own st 3 TB xb (encB t.bs)) (ou : Own st 4 TU xu (encU t.us)) (ot : Own st 1 TI xt (encN t.tw)) :
    ∃ v' s1 fx s2 fx2, Fine st fx ∧ VM.one v' = true ∧ Td TT TB TU TI s2 a ⟨t.bs, t.us ++ [(nm, sp, k)], t.tw⟩ ∧ Kt (· = a) st s2 ∧ (∀ {β : Type} (K : Kv β), appS 4 40 TU xu [.agg [.str nm, .int .i64 sp.1, .int .i64 sp.2, .int .i64 k]] st K = K v' s1 fx) ∧
      ∀ {β : Type} (K : Kv β), storeS (orc vE) 1 (.mp a 1) v' [v'] s1 K = K VM.undef s2 fx2 := by
  obtain ⟨v', s1, fx, e1, o1, k1, _⟩ := app_own (b := 40) (new := [.agg [.str nm, .int .i64 sp.1, .int .i64 sp.2, .int .i64 k]]) ou (by simp) (room_of (by rw [encU_len]; simp; omega) (by omega) (by omega))
  have g1 := k1.old a _ (ou.not hg) hg
  have ob1 := own_keep ob k1 (own_two ob ou w.ne.1)
  have ot1 := own_keep ot k1 (own_two ot ou w.ne.2.2.symm)
  have hro : s1.ro ≤ a := by rw [k1.ro]; exact w.ro
  refine ⟨v', s1, fx, s1.put a (.cells TT [xb, v', xt]), _, app_fine ou e1, o1.one, ⟨w.ne, hro, xb, v', xt, St.get_put_same (St.get_ok.1 g1).1, ob1.put g1, ?_, ot1.put g1⟩, (Kt.own k1 ou).trans (Kt.keeps (Keeps.put rfl)), fun K => appS_of e1 K, fun K => storeS_at (cs := [v']) (z := 1) g1 rfl (Nat.le_of_ble_eq_true rfl) hro K⟩
  rw [encU_app]
  exact o1.put g1
theorem Td.pushT (w : Td TT TB TU TI st a t) (hl : t.tw.length ≤ 100000000) (k : Nat) (hg : st.get a = .ok (.cells TT [xb, xu, xt])) (ob : Own st 3 TB xb (encB t.bs)) (ou : Own st 4 TU xu (encU t.us)) (ot : Own st 1 TI xt (encN t.tw)) :
    ∃ v' s1 fx s2 fx2, Fine st fx ∧ VM.one v' = true ∧ Td TT TB TU TI s2 a ⟨t.bs, t.us, t.tw ++ [k]⟩ ∧ Kt (· = a) st s2 ∧ (∀ {β : Type} (K : Kv β), appS 1 8 TI xt [.int .i64 (k : Int)] st K = K v' s1 fx) ∧
      ∀ {β : Type} (K : Kv β), storeS (orc vE) 1 (.mp a 2) v' [v'] s1 K = K VM.undef s2 fx2 := by
  obtain ⟨v', s1, fx, e1, o1, k1, _⟩ := app_own (b := 8) (new := [.int .i64 (k : Int)]) ot (by simp) (room_of (by rw [encN_len]; simp; omega) (by omega) (by omega))
  have g1 := k1.old a _ (ot.not hg) hg
  have ob1 := own_keep ob k1 (own_two ob ot w.ne.2.1)
  have ou1 := own_keep ou k1 (own_two ou ot w.ne.2.2)
  have hro : s1.ro ≤ a := by rw [k1.ro]; exact w.ro
  refine ⟨v', s1, fx, s1.put a (.cells TT [xb, xu, v']), _, app_fine ot e1, o1.one, ⟨w.ne, hro, xb, xu, v', St.get_put_same (St.get_ok.1 g1).1, ob1.put g1, ou1.put g1, ?_⟩, (Kt.own k1 ot).trans (Kt.keeps (Keeps.put rfl)), fun K => appS_of e1 K, fun K => storeS_at (cs := [v']) (z := 1) g1 rfl (Nat.le_of_ble_eq_true rfl) hro K⟩
  rw [encN_app]
  exact o1.put g1
theorem Td.keep (w : Td TT TB TU TI st a t) {but : Nat → Prop} (k : Keeps st st' but) (ha : ¬ but a) (hn : ∀ j n e, st.get j = .ok (.tok n e) → ¬ but j) : Td TT TB TU TI st' a t := by
  obtain ⟨xb, xu, xt, hg, ob, ou, ot⟩ := w.ex
  have own : ∀ {z : Nat} {e : TypeId} {v : AV} {es : List AV}, Own st z e v es → Own st' z e v es := fun h => own_keep h k fun j hj => by
    obtain ⟨z', es', rfl⟩ := hj
    rcases h.2.2 with ⟨h1 | h1, _⟩ | h1 | ⟨k', h1, h2, _⟩
    · cases h1
    · cases h1
    · cases h1
    · cases h1; exact hn _ _ _ h2
  exact ⟨w.ne, by rw [k.ro]; exact w.ro, xb, xu, xt, k.old a _ ha hg, own ob, own ou, own ot⟩
end
theorem wrap1 {i n : Nat} (h : i < n) (hn : n ≤ 9223372036854775807) : IntKind.wrap .i64 ((i : Int) + 1) = ((i + 1 : Nat) : Int) := wrapA1 (by omega)
theorem take6 {a b c d e f : AV} : takeO 6 true [a, b, c, d, e, f] = some (.agg [a, b, c, d, e, f]) := takeO_all rfl
theorem take7 {a b c d e f g : AV} : takeO 7 true [a, b, c, d, e, f, g] = some (.agg [a, b, c, d, e, f, g]) := takeO_all rfl
def hasAny (t : Tb) (nm : Tx) (i : Nat) : Bool := (t.bs.drop i).any fun b => b.1 == nm
theorem mem_drop {α : Type} {l r : List α} {e : α} {i : Nat} (h : l.drop i = e :: r) : e ∈ l := List.mem_of_mem_drop (by rw [h]; exact List.mem_cons_self)
theorem mem_lt {l : List Exr} {e : Exr} {n m : Nat} (h : e ∈ l) (h1 : SizeOf.sizeOf l < m) (h2 : m ≤ n) : SizeOf.sizeOf e < n := by
  have := List.sizeOf_lt_of_mem h
  omega
theorem cut_one {z : Nat} {x : AV} {es : List AV} (h : IsSl z x es) {i : Nat} (hi : i < es.length) : ∃ x', IsSl z x' ((es.take (i + 1)).drop i) ∧ ∀ {β : Type} (K : AV → Option β), sliceS z x (some (i : Int)) (some ((i + 1 : Nat) : Int)) none K = K x' :=
  h.cut (lo := some (i : Int)) (hi := some ((i + 1 : Nat) : Int)) (l := i) (m := i + 1) (hiO_nat (by omega)) (hiO_nat (by omega))
theorem take_drop_one {α : Type} {l r : List α} {p : α} {i : Nat} (h : l.drop i = p :: r) : (l.take (i + 1)).drop i = [p] := by
  have h1 : (l.take (i + 1)).drop i = (l.drop i).take 1 := by rw [List.drop_take]; congr 1; omega
  rw [h1, h]; rfl
theorem in_two {rc : Bool} {ps : List Pat} {t : Tb} {bd : List Nat} (h : In t bd) : In (two rc ps t bd).1 (two rc ps t bd).2.1 ∧ In (two rc ps t bd).1 (two rc ps t bd).2.2 := by
  have h3 := two_inv (I := In) (rc := rc) (ps := ps) (fun fr nm sp u b _ hb => in_bind fr nm sp u b hb) (fun u v b c e hb _ => hb.ext e) (fun ps u b _ => binders_ext ps u b) h
  exact ⟨h3.1, h3.2.1⟩
/-- A table, as a value. -/
def IsTb (t : Tb) (v : AV) : Prop := ∃ yb yu yt, v = .agg [yb, yu, yt] ∧ IsSl 3 yb (encB t.bs) ∧ IsSl 4 yu (encU t.us) ∧ IsSl 1 yt (encN t.tw)
theorem frz3 {st : St} {t1 t2 t3 : TypeId} {xb xu xt : AV} {eb eu et : List AV} (ob : Own st 3 t1 xb eb) (ou : Own st 4 t2 xu eu) (ot : Own st 1 t3 xt et) :
    ∃ yb yu yt, IsSl 3 yb eb ∧ IsSl 4 yu eu ∧ IsSl 1 yt et ∧ ∀ {β : Type} (K : AV → Option β), frzS st 0 (.agg [xb, xu, xt]) K = K (.agg [yb, yu, yt]) := by
  obtain ⟨yb, hb, e1⟩ := own_freeze ob
  obtain ⟨yu, hu, e2⟩ := own_freeze ou
  obtain ⟨yt, ht, e3⟩ := own_freeze ot
  refine ⟨yb, yu, yt, hb, hu, ht, fun K => ?_⟩
  have e4 : VM.freeze st 0 100 (.agg [xb, xu, xt]) = .ok (.agg [yb, yu, yt]) := by
    show (do pure (.agg (← allE (VM.freeze st 0 99) [xb, xu, xt])) : Res AV) = _
    have e5 : allE (VM.freeze st 0 99) [xb, xu, xt] = .ok [yb, yu, yt] := by
      simp only [allE, e1 98, e2 98, e3 98, ok_bind, pure_eq]
    rw [e5]; rfl
  have e5 : bare (.agg [yb, yu, yt]) = true := by
    show (bare yb && (bare yu && (bare yt && true))) = true
    rw [hb.bare, hu.bare, ht.bare]; rfl
  simp only [frzS, e4, e5, chk_true]
theorem take3 {a b c : AV} : takeO 3 true [a, b, c] = some (.agg [a, b, c]) := takeO_all rfl
theorem take11 {a b c d e f g h i j k : AV} : takeO 11 true [a, b, c, d, e, f, g, h, i, j, k] = some (.agg [a, b, c, d, e, f, g, h, i, j, k]) := takeO_all rfl
/-- The end: a table, written to the result and frozen. -/
theorem table_end {TT TB TU TI T0 : TypeId} {st : St} {t : Tb} (w : Td TT TB TU TI st 1 t) {o1 o2 o3 : AV} (h0 : st.get 0 = .ok (.cells T0 [o1, o2, o3])) (hr : st.ro = 0) :
    ∃ xb xu xt s2 fx v, VM.one xb = true ∧ VM.one xu = true ∧ VM.one xt = true ∧ IsTb t v ∧ st.get 1 = .ok (.cells TT [xb, xu, xt]) ∧ s2.get 0 = .ok (.cells T0 [xb, xu, xt]) ∧ (∀ {β : Type} (K : Kv β), storeS (orc vE) 3 (.mp 0 0) (.agg [xb, xu, xt]) [xb, xu, xt] st K = K VM.undef s2 fx) ∧
      ∀ {β : Type} (K : AV → Option β), frzS s2 0 (.agg [xb, xu, xt]) K = K v := by
  obtain ⟨xb, xu, xt, hg, ob, ou, ot⟩ := w.ex
  obtain ⟨yb, yu, yt, hb, hu, ht, e⟩ := frz3 (ob.put h0 (t' := T0) (cs' := [xb, xu, xt])) (ou.put h0) (ot.put h0)
  exact ⟨xb, xu, xt, _, _, _, ob.one, ou.one, ot.one, ⟨yb, yu, yt, rfl, hb, hu, ht⟩, hg, St.get_put_same (St.get_ok.1 h0).1, fun K => storeS_at (cs := [xb, xu, xt]) (z := 3) h0 rfl (Nat.le_of_ble_eq_true rfl) (by rw [hr]; exact Nat.le_refl _) K, e⟩
/-- Where it begins: two tables with nothing in them. -/
abbrev T2 (t0 t1 : TypeId) : St := St.mk 2 0 (Tr.node (some (VM.Obj.cells t0 [AV.nils, AV.nils, AV.nils])) (Tr.node (some (VM.Obj.cells t1 [AV.nils, AV.nils, AV.nils])) Tr.leaf Tr.leaf) Tr.leaf)
theorem start2 {TB TU TI t0 t1 : TypeId} (hne : TB ≠ TU ∧ TB ≠ TI ∧ TU ≠ TI) : Td t1 TB TU TI (T2 t0 t1) 1 Tb.none ∧ (T2 t0 t1).get 0 = .ok (.cells t0 [.nils, .nils, .nils]) :=
  ⟨⟨hne, Nat.zero_le _, _, _, _, rfl, Own.nils (Nat.zero_le _) 3 TB, Own.nils (Nat.zero_le _) 4 TU, Own.nils (Nat.zero_le _) 1 TI⟩, rfl⟩
theorem IsTb.strip {t : Tb} {v : AV} (h : IsTb t v) : VM.strip v = v := by
  obtain ⟨_, _, _, rfl, _⟩ := h; rfl
theorem IsTb.bare {t : Tb} {v : AV} (h : IsTb t v) : VM.bare v = true := by
  obtain ⟨yb, yu, yt, rfl, hb, hu, ht⟩ := h
  show (VM.bare yb && (VM.bare yu && (VM.bare yt && true))) = true
  rw [hb.bare, hu.bare, ht.bare]; rfl
theorem callT1 {γ : Type} {F : FuncId} {t : Tb} {x : AV} (hx : IsTb t x) {v : AV} (h : (orc vE).bare F [x] = some v) (hf : vE.full F = false) (st : St) (K : Kv γ) : callS (orc vE) F [x] st K = K v st q0 :=
  callS_bare st K hf (by simp only [List.map_cons, List.map_nil, hx.strip]) (by simp only [bares_cons, hx.bare]; rfl) h
theorem callT2 {γ : Type} {F : FuncId} {t u : Tb} {x y : AV} (hx : IsTb t x) (hy : IsTb u y) {v : AV} (h : (orc vE).bare F [x, y] = some v) (hf : vE.full F = false) (st : St) (K : Kv γ) : callS (orc vE) F [x, y] st K = K v st q0 :=
  callS_bare st K hf (by simp only [List.map_cons, List.map_nil, hx.strip, hy.strip]) (by simp only [bares_cons, hx.bare, hy.bare]; rfl) h
end Go.Proofs.YtoopmjhdgkcleaaGreatDoor.Vm
/- What a name means (the program's): frames. -/
set_option maxRecDepth 100000
set_option linter.unusedSimpArgs false
namespace Go.Proofs.YtoopmjhdgkcleaaGreatDoor.Vm
open Go Go.VM Go.Proofs Go.Scope

/-- The first place of a text. -/
def idxS (s : List UInt8) : List (List UInt8) → Nat → Option Nat
  | [], _ => none
  | t :: l, j => if s = t then some j else idxS s l (j + 1)
theorem idxS_any (s : List UInt8) : ∀ (l : List (List UInt8)) (j : Nat), (idxS s l j).isSome = l.any fun t => t == s
  | [], _ => rfl
  | t :: l, j => by
    simp only [idxS, List.any_cons]
    by_cases h : s = t
    · rw [if_pos h, h]; simp
    · rw [if_neg h, idxS_any s l (j + 1), beq_eq_false_iff_ne.2 (fun e => h e.symm), Bool.false_or]
theorem str_idx {x : AV} {ss : List (List UInt8)} (h : IsSl 1 x (ss.map AV.str)) {j : Nat} {s : List UInt8} (hj : ss[j]? = some s) {β : Type} (st : St) (K : AV → List Nat → Option β) : idxA 1 x (j : Int) st K = K (.ip [.str s]) [] :=
  h.idx (v := .str s) (by rw [List.getElem?_map, hj]; rfl) st K
theorem index_loop {x : AV} {ss : List (List UInt8)} (hx : IsSl 1 x (ss.map AV.str)) (s : List UInt8) (st : St) : ∀ (l : List (List UInt8)) (j : Nat), ss.drop j = l →
    loopO (g64_L1 x s ss.length) ([.int .i64 0, .int .i64 (j : Int)], st) = (match idxS s l j with | some k => some (1, [.int .i64 (k : Int)], st) | none => some (0, [.int .i64 0], st))
  | [], j, hd => by
    have := List.drop_eq_nil_iff.1 hd
    have q : ¬ (j : Int) < (ss.length : Int) := by omega
    refine loopO_inr ?_
    simp only [g64_L1, unc_cons, asI_int, un0_nil, ifB_decide, if_neg q]
  | t :: l, j, hd => by
    obtain ⟨hg, hr, hlt⟩ := drop_cons hd
    have q : (j : Int) < (ss.length : Int) := by omega
    have hlen := hx.1
    rw [List.length_map] at hlen
    simp only [idxS]
    by_cases h : s = t
    · rw [if_pos h]
      refine loopO_inr ?_
      have hb : (s == t) = true := by simp [h]
      simp only [g64_L1, unc_cons, asI_int, un0_nil, ifB_decide, if_pos q, str_idx hx hg, loadS_ip, takeO_one, bindO_ok, asS_str, hb, ifB_true]
    · rw [if_neg h, loopO_inl (s' := ([.int .i64 0, .int .i64 ((j + 1 : Nat) : Int)], st)), index_loop hx s st l (j + 1) hr]
      have hb : (s == t) = false := beq_eq_false_iff_ne.2 h
      simp only [g64_L1, unc_cons, asI_int, un0_nil, ifB_decide, if_pos q, str_idx hx hg, loadS_ip, takeO_one, bindO_ok, asS_str, hb, ifB_false, letV_eq, wrapA1 (show j + 1 ≤ 9223372036854775807 by omega)]
theorem contains_ok {x : AV} {ss : List (List UInt8)} (hx : IsSl 1 x (ss.map AV.str)) (s : List UInt8) : (orc vE).bare 47 [x, .str s] = some (.bool (ss.any fun t => t == s)) := by
  have hi : ∃ n : Int, (orc vE).bare 64 [x, .str s] = some (.int .i64 n) ∧ decide (n ≥ 0) = ss.any fun t => t == s := by
    have e := index_loop hx s (St.mk 0 0 Tr.leaf) ss 0 rfl
    have e : loopO (g64_L1 x s ss.length) ([.int .i64 0, .int .i64 0], St.mk 0 0 Tr.leaf) = _ := e
    have hl := fun {β : Type} (K : Nat → Option β) => hx.len K
    simp only [List.length_map] at hl
    rw [← idxS_any s ss 0]
    cases hk : idxS s ss 0 with
    | some k =>
      rw [hk] at e
      refine ⟨(k : Int), bare_of rfl ((g64_eq _ _).trans ?_), by simp⟩
      simp only [g64, asS_str, hl, e, bindO_ok, unc_cons, asI_int, un0_nil, sel2_one]
    | none =>
      rw [hk] at e
      refine ⟨-1, bare_of rfl ((g64_eq _ _).trans ?_), by simp⟩
      simp only [g64, asS_str, hl, e, bindO_ok, unc_cons, asI_int, un0_nil, sel2_zero]
  obtain ⟨n, h1, h2⟩ := hi
  refine bare_of rfl ((g47_eq _ _).trans ?_)
  have c := fun {β : Type} (st : St) (K : Kv β) => callS_bare (f := 64) st K rfl (by simp only [List.map_cons, List.map_nil, hx.strip]; rfl) (by simp only [bares_cons, hx.bare]; rfl) h1
  simp only [g47, asS_str, c, asI_int, h2]
theorem call_given (s : List UInt8) {β : Type} (st : St) (K : Kv β) : callS (orc vE) 47 [.sl 1 [.str [110, 111, 116], .str [102, 115, 116], .str [115, 110, 100], .str [102, 108, 111, 97, 116]] .shut, .str s] st K = K (.bool (given s)) st q0 :=
  callS_bare (f := 47) st K rfl rfl rfl (contains_ok (ss := [sNot, sFst, sSnd, sFloat]) (IsSl.shut (Nat.le_of_ble_eq_true rfl)) s)
/-! Maps. -/
def encM (l : List (Tx × Nat)) : List (AV × AV) := l.map fun e => (.str e.1, .int .i64 (e.2 : Int))
theorem find_encM (nm : Tx) : ∀ (l : List (Tx × Nat)), findEntry (.str nm) (encM l) = .ok ((findM nm l).map fun (i : Nat) => .int .i64 (i : Int))
  | [] => rfl
  | (a, i) :: l => by
    have ih := find_encM nm l
    unfold encM at ih ⊢
    simp only [List.map_cons, findEntry, keyEq, ok_bind, findM]
    cases e : nm == a with
    | true => rfl
    | false => rw [if_neg (by simp)]; exact ih
theorem set_encM (nm : Tx) (k : Nat) : ∀ (l : List (Tx × Nat)), setEntry (.str nm) (.int .i64 (k : Int)) (encM l) = .ok (encM (setM nm k l))
  | [] => rfl
  | (a, i) :: l => by
    have ih := set_encM nm k l
    unfold encM at ih ⊢
    simp only [List.map_cons, setEntry, keyEq, ok_bind, setM]
    cases e : nm == a with
    | true => rfl
    | false =>
      rw [if_neg (by simp)]
      simp only [ih, ok_bind, List.map_cons]
      rfl
abbrev MT : TypeId := 103
theorem ti_map : ti (Env.T vE) MT = .ok ⟨.map 9 3, 1, 8, [.nilm], false, false⟩ := rfl
theorem ti_int : ti (Env.T vE) 3 = .ok ⟨.int .i64, 1, 8, [.int .i64 0], false, false⟩ := rfl
theorem ti_str : ti (Env.T vE) 9 = .ok ⟨.str, 1, 16, [.str []], false, false⟩ := rfl
/-- What is found of a name. -/
theorem look_map {st : St} {m : Nat} {l : List (Tx × Nat)} (hm : st.get m = .ok (.map (encM l))) (nm : Tx) {β : Type} (K : Kv β) :
    planS (orc vE) (lookupP (Env.T vE) MT (.mm m) (.str nm) true) st K = K (.tup [.int .i64 (((findM nm l).getD 0 : Nat) : Int), .bool (findM nm l).isSome]) st ⟨[m], .kept⟩ := by
  have e1 : ∀ (i : TI), found ⟨.int .i64, 1, 8, [.int .i64 0], false, false⟩ true (.str nm) (encM l) = .ok (.tup [.int .i64 (((findM nm l).getD 0 : Nat) : Int), .bool (findM nm l).isSome]) := fun _ => by
    simp only [found, find_encM, ok_bind]
    cases findM nm l <;> rfl
  have e2 : lookupP (Env.T vE) MT (.mm m) (.str nm) true = .ok (readP m fun o => match o with | .map es => found ⟨.int .i64, 1, 8, [.int .i64 0], false, false⟩ true (.str nm) es | _ => .error "lookup: no map") := by
    simp only [lookupP, ti_map, ti_int, ti_str, ok_bind, keyOk, pure_eq]
    rfl
  rw [e2]
  simp only [planS, planO, readP, hm, e1 ⟨.other, 0, 0, [], false, false⟩, ok_bind, pure_eq, outS, bindO_ok]
theorem put_map {st : St} {m : Nat} {l : List (Tx × Nat)} (hm : st.get m = .ok (.map (encM l))) (hro : st.ro ≤ m) (nm : Tx) (k : Nat) {β : Type} (K : Kv β) :
    planS (orc vE) (mapUpdateP (Env.T vE) MT (.mm m) (.str nm) (.int .i64 (k : Int))) st K = K VM.undef (st.put m (.map (encM (setM nm k l)))) ⟨[m], .wrote m (.map (encM (setM nm k l)))⟩ := by
  have e2 : mapUpdateP (Env.T vE) MT (.mm m) (.str nm) (.int .i64 (k : Int)) = .ok (.obj m fun o => match o with | .map es => do pure (VM.undef, some (.map (← setEntry (.str nm) (.int .i64 (k : Int)) es))) | _ => .error "mapUpdate: no map") := by
    simp only [mapUpdateP, ti_map, ti_str, ok_bind, keyOk, pure_eq]
    rfl
  have h2 : (st.ro.ble m) = true := Nat.ble_eq_true_of_le hro
  rw [e2]
  simp only [planS, planO, hm, set_encM, ok_bind, pure_eq, wroteO, h2, outS, bindO_ok]
/-! Frames. -/
abbrev FT : TypeId := 105
/-- What is bound at a frame, and around it. -/
inductive Ch (st : St) (bs : List (Tx × Sp)) : AV → List Nat → Prop
  | nil : Ch st bs .nilp []
  | cons {id m : Nat} {f : AV} {l : List (Tx × Nat)} {bd g : List Nat} (hd : st.get id = .ok (.cells FT [.mm m, f])) (hm : st.get m = .ok (.map (encM l))) (ok : MapOk l bs g) (r : Ch st bs f bd) : Ch st bs (.mp id 0) (bd ++ g)
theorem Ch.ptr {st : St} {bs : List (Tx × Sp)} {f : AV} {bd : List Nat} (h : Ch st bs f bd) : (f = .nilp ∨ ∃ id, f = .mp id 0) := by
  cases h with
  | nil => exact .inl rfl
  | cons => exact .inr ⟨_, rfl⟩
theorem Ch.one {st : St} {bs : List (Tx × Sp)} {f : AV} {bd : List Nat} (h : Ch st bs f bd) : VM.one f = true := by
  rcases h.ptr with rfl | ⟨id, rfl⟩ <;> rfl
theorem Ch.strip {st : St} {bs : List (Tx × Sp)} {f : AV} {bd : List Nat} (h : Ch st bs f bd) : VM.strip f = f := by
  rcases h.ptr with rfl | ⟨id, rfl⟩ <;> rfl
theorem Ch.keep {st st' : St} {bs : List (Tx × Sp)} {but : Nat → Prop} (k : Kt but st st') (hf : ∀ i cs, st.get i = .ok (.cells FT cs) → ¬ but i) (hm : ∀ i es, st.get i = .ok (.map es) → ¬ but i) (x : List (Tx × Sp)) : ∀ {f : AV} {bd : List Nat}, Ch st bs f bd → (∀ i ∈ bd, i < bs.length) → Ch st' (bs ++ x) f bd := by
  intro f bd h
  induction h with
  | nil => intro _; exact Ch.nil
  | cons hd hmm ok r ih =>
    intro hi
    refine Ch.cons (k.cells (hf _ _ hd) hd) (k.map (hm _ _ hmm) hmm) (fun nm => ?_) (ih fun i h => hi i (List.mem_append_left _ h))
    rw [ok nm, seek_ext x fun i h => hi i (List.mem_append_right _ h)]
theorem nil_nilp (β : Type) (K : Bool → Option β) : nilS (U.ptr FT) .nilp .nilp K = K true := id rfl
theorem nil_mp (β : Type) (i o : Nat) (K : Bool → Option β) : nilS (U.ptr FT) (.mp i o) .nilp K = K false := id rfl
theorem find_loop {st : St} {bs : List (Tx × Sp)} (nm : Tx) {f : AV} {bd : List Nat} (h : Ch st bs f bd) : loopO (l34_L1 nm) ([.int .i64 0, f], lk st) = (match seek bs nm bd with | some i => some (1, [.int .i64 (i : Int)], lk st) | none => some (0, [.int .i64 0], lk st)) := by
  induction h with
  | nil =>
    refine loopO_inr ?_
    simp only [l34_L1, unc_cons, asI_int, un0_nil, nil_nilp, Bool.not_true, ifB_false]
  | @cons id m f l bd g hd hm ok r ih =>
    have hd1 : (lk st).get id = .ok (.cells FT [.mm m, f]) := hd
    have hm1 : (lk st).get m = .ok (.map (encM l)) := hm
    rw [seek_app, ← ok nm]
    cases hf : findM nm l with
    | some i =>
      refine loopO_inr ?_
      simp only [l34_L1, unc_cons, asI_int, un0_nil, nil_mp, Bool.not_false, ifB_true, notNil_mp, chk_true, fldA_mp, Nat.add_zero, Nat.zero_add, loadS_mp hd1, List.drop_zero, takeO_one, bindO_ok, look_map hm1, unT_tup, nthS_zero, nthS_one, hf, Option.isSome_some, asB_bool, Option.getD_some, Option.some_or]
    | none =>
      rw [Option.none_or, loopO_inl (s' := ([.int .i64 0, f], lk st)), ih]
      simp only [l34_L1, unc_cons, asI_int, un0_nil, nil_mp, Bool.not_false, ifB_true, notNil_mp, chk_true, fldA_mp, Nat.add_zero, Nat.zero_add, loadS_mp hd1, List.drop_zero, List.drop_succ_cons, takeO_one, bindO_ok, look_map hm1, unT_tup, nthS_zero, nthS_one, hf, Option.isSome_none, asB_bool, ifB_false]
theorem find_look {st : St} {bs : List (Tx × Sp)} (nm : Tx) {f : AV} {bd : List Nat} (h : Ch st bs f bd) : (orc vE).look 34 [f, .str nm] st = some (.int .i64 (means bs nm bd)) := by
  refine look_of ((l34_eq _ _ _).trans ?_)
  have e := find_loop nm h
  unfold means
  cases hs : seek bs nm bd with
  | some i =>
    rw [hs] at e
    simp only [l34, asS_str, e, bindO_ok, unc_cons, asI_int, un0_nil, sel2_one]
  | none =>
    rw [hs] at e
    simp only [l34, asS_str, e, bindO_ok, unc_cons, asI_int, un0_nil, sel2_zero, call_given, asB_bool, ifB_eq]
    split <;> rfl
theorem find_bare (nm : Tx) : (orc vE).bare 34 [.nilp, .str nm] = some (.int .i64 (means [] nm [])) := by
  refine bare_of rfl ((g34_eq _ _).trans ?_)
  have e : loopO (g34_L1 nm) ([.int .i64 0, .nilp], S0) = some (0, [.int .i64 0], S0) := by
    refine loopO_inr ?_
    simp only [g34_L1, unc_cons, asI_int, un0_nil, nil_nilp, Bool.not_true, ifB_false]
  have hs : seek [] nm [] = none := rfl
  simp only [g34, asS_str, e, bindO_ok, unc_cons, asI_int, un0_nil, sel2_zero, call_given, asB_bool, ifB_eq, means, hs]
  split <;> rfl
theorem call_find {st : St} {bs : List (Tx × Sp)} (nm : Tx) {f : AV} {bd : List Nat} (h : Ch st bs f bd) : ∃ q, (∀ l, apart ⟨l, .kept⟩ q = true) ∧ ∀ {β : Type} (K : Kv β), callS (orc vE) 34 [f, .str nm] st K = K (.int .i64 (means bs nm bd)) st q := by
  rcases h.ptr with rfl | ⟨id, rfl⟩
  · cases h with
    | nil =>
      refine ⟨q0, fun _ => rfl, fun K => ?_⟩
      have e : means bs nm [] = means [] nm [] := rfl
      rw [e]
      exact callS_bare st K rfl rfl rfl (find_bare nm)
  · exact ⟨⟨[], .looked⟩, fun _ => rfl, fun K => callS_look K rfl rfl (find_look nm h)⟩
end Go.Proofs.YtoopmjhdgkcleaaGreatDoor.Vm
/- The program's binders. -/
set_option maxRecDepth 100000
set_option linter.unusedSimpArgs false
namespace Go.Proofs.YtoopmjhdgkcleaaGreatDoor.Vm
open Go Go.VM Go.Proofs Go.Scope

abbrev MK : TypeId := 69
abbrev Mt (st : St) (a : Nat) (t : Tb) : Prop := Td MK 36 34 3 st a t
structure Cl (st : St) (a xm xf xi id m : Nat) (f : AV) : Prop where
  gm : st.get xm = .ok (.cells 67 [.mp a 0])
  gf : st.get xf = .ok (.cells 70 [.mp id 0])
  gi : st.get xi = .ok (.cells 122 [.fn (.func 46) [] [.mp xm 0, .mp xf 0, .mp xi 0]])
  gd : st.get id = .ok (.cells FT [.mm m, f])
theorem ne_ty {st : St} {i j : Nat} {t u : TypeId} {cs ds : List AV} (h : st.get i = .ok (.cells t cs)) (k : st.get j = .ok (.cells u ds)) (hn : t ≠ u) : i ≠ j := by
  rintro rfl
  rw [h] at k
  simp only [Except.ok.injEq, VM.Obj.cells.injEq] at k
  exact hn k.1
theorem ne_map {st : St} {i j : Nat} {t : TypeId} {cs : List AV} {es : List (AV × AV)} (h : st.get i = .ok (.cells t cs)) (k : st.get j = .ok (.map es)) : i ≠ j := by
  rintro rfl
  rw [h] at k
  cases k
theorem Cl.keep {st st' : St} {a xm xf xi id m : Nat} {f : AV} (c : Cl st a xm xf xi id m f) {t : Tb} (w : Mt st a t) {es : List (AV × AV)} (hm : st.get m = .ok (.map es)) (k : Kt (fun j => j = a ∨ j = m) st st') : Cl st' a xm xf xi id m f := by
  obtain ⟨xb, xu, xt, hg, _⟩ := w.ex
  have h : ∀ {i : Nat} {u : TypeId} {cs : List AV}, u ≠ MK → st.get i = .ok (.cells u cs) → st'.get i = .ok (.cells u cs) := fun hu hi => k.cells (fun e => by
    rcases e with e | e
    · exact ne_ty hi hg hu e
    · exact ne_map hi hm e) hi
  exact ⟨h (by decide) c.gm, h (by decide) c.gf, h (by decide) c.gi, h (by decide) c.gd⟩
/-- A group at work. -/
structure Gs (st : St) (a xm xf xi id m : Nat) (f : AV) (fr : Nat) (t : Tb) : Prop where
  w : Mt st a t
  c : Cl st a xm xf xi id m f
  ex : ∃ l, st.get m = .ok (.map (encM l)) ∧ MapOk l t.bs (gr fr t.bs.length)
  fr : fr ≤ t.bs.length
  ro : st.ro ≤ m
section
variable {st st' : St} {a xm xf xi id m fr : Nat} {f : AV} {t : Tb}
theorem Gs.quiet (g : Gs st a xm xf xi id m f fr t) (k : Keeps st st' (fun _ => False)) : Gs st' a xm xf xi id m f fr t := by
  obtain ⟨l, hm, ok⟩ := g.ex
  exact ⟨g.w.keep k (fun f => f) (fun _ _ _ _ f => f), ⟨k.old _ _ (fun f => f) g.c.gm, k.old _ _ (fun f => f) g.c.gf, k.old _ _ (fun f => f) g.c.gi, k.old _ _ (fun f => f) g.c.gd⟩, ⟨l, k.old _ _ (fun f => f) hm, ok⟩, g.fr, by rw [k.ro]; exact g.ro⟩
end
theorem call_fn {β : Type} (v : AV) (cap : List AV) (st : St) (K : Kv β) : callF (orc vE) (Sx.prim (sx vE 46)) (.fn (.func 46) [] cap) [v] st K = callS (orc vE) 46 (v :: cap) st K := id rfl
theorem call_fn2 {β : Type} (v : AV) (cap : List AV) (st : St) (K : Kv β) : callF (orc vE) (Sx.prim (sx vE 33)) (.fn (.func 46) [] cap) [v] st K = callS (orc vE) 46 (v :: cap) st K := id rfl
/-- A local pattern. -/
theorem lvP (st : St) (k lit : Nat) (sp : Sp) (nm : Tx) (x : AV) (h : st.ro ≤ st.h) : ∃ st' fx, st'.get st.h = .ok (.cells 101 [.int .u8 (k : Int), .int .u8 (lit : Int), .int .i64 sp.1, .int .i64 sp.2, .str nm, x]) ∧ Keeps st st' (fun _ => False) ∧
    ∀ {β : Type} (K : Kv β), storeS (orc vE) 6 (AV.mp st.h 0) (.agg [.int .u8 (k : Int), .int .u8 (lit : Int), .int .i64 sp.1, .int .i64 sp.2, .str nm, x]) [.int .u8 (k : Int), .int .u8 (lit : Int), .int .i64 sp.1, .int .i64 sp.2, .str nm, x]
      (st.add (.cells 101 [.int .u8 0, .int .u8 0, .int .i64 0, .int .i64 0, .str [], .nils])) K = K VM.undef st' fx := by
  obtain ⟨st', g, k1, n, fx, e⟩ := local_var (O := orc vE) (st := st) (t := 101) (z := 6) (old := [.int .u8 0, .int .u8 0, .int .i64 0, .int .i64 0, .str [], .nils]) (cs := [.int .u8 (k : Int), .int .u8 (lit : Int), .int .i64 sp.1, .int .i64 sp.2, .str nm, x])
    (.agg [.int .u8 (k : Int), .int .u8 (lit : Int), .int .i64 sp.1, .int .i64 sp.2, .str nm, x]) rfl rfl h
  exact ⟨st', fx, g, k1, e⟩
theorem nb2 (v : AV) (i o : Nat) (l : List AV) (b : Bool) : (bares ((v :: .mp i o :: l).map VM.strip) && b) = false := by
  simp only [List.map_cons, bares_cons]
  have : VM.bare (VM.strip (.mp i o)) = false := rfl
  rw [this]
  simp
def InR (st : St) (a xm xf xi id m : Nat) (f : AV) (fr : Nat) (t' : Tb) (r : AV × St) : Prop := ∃ v' st', r = (v', st') ∧ Gs st' a xm xf xi id m f fr t' ∧ Kt (fun j => j = a ∨ j = m) st st'
theorem in_ok : ∀ (n : Nat) (p : Pat) (v : AV) (st : St) (a xm xf xi id m : Nat) (f : AV) (fr : Nat) (t : Tb), SizeOf.sizeOf p < n → IsP p v → Gs st a xm xf xi id m f fr t → Sm (grp fr p t []).1 →
    Goes ((orc vE).wide 46 [v, .mp xm 0, .mp xf 0, .mp xi 0] st) (InR st a xm xf xi id m f fr (grp fr p t []).1) := by
  intro n
  induction n with
  | zero => intro p v st a xm xf xi id m f fr t h; omega
  | succ n ih =>
    intro p v st a xm xf xi id m f fr t h hP g hsm
    cases p with
    | mk k lit sp nm ps =>
      obtain ⟨y, es, rfl, hy, hps⟩ := hP.opn
      simp only [Pat.mk.sizeOf_spec] at h
      have hyl := hy.1
      refine Goes.wide (Goes.step (w46_eq _ _ _ _ _) ?_)
      simp only [w46, unA_agg, unc_cons, asI_int, asS_str, un0_nil, hy.asOne, hy.fit1]
      have hmid : ∃ t1 : Tb, (grp fr (.mk k lit sp nm ps) t []).1 = (grps fr ps t1 []).1 ∧ fr ≤ t1.bs.length ∧ (if k = 15 then t1 = bindT fr nm sp t else t1 = t) := by
        by_cases hk : k = 15
        · refine ⟨bindT fr nm sp t, by simp only [grp, if_pos hk]; exact (grps_tab fr _).2 ps _ _ _ (Nat.lt_succ_self _), ?_, by rw [if_pos hk]⟩
          show fr ≤ (t.bs ++ [(nm, sp)]).length
          have := g.fr
          simp; omega
        · exact ⟨t, by simp only [grp, if_neg hk], g.fr, by rw [if_neg hk]⟩
      obtain ⟨t1, ht1, hf1, hcase⟩ := hmid
      rw [ht1] at hsm ⊢
      have hsm1 : Sm t1 := hsm.ext (ext_grps fr ps t1 [] hf1).1
      refine Goes.bind (R := fun c => ∃ s', c = ([], s') ∧ Gs s' a xm xf xi id m f fr t1 ∧ Kt (fun j => j = a ∨ j = m) st s') ?_ ?_
      · by_cases hk : k = 15
        · rw [if_pos hk] at hcase
          subst hcase
          have hsm0 : Sm t := hsm1.ext (ext_bind fr nm sp t)
          have hk' : (k : Int) = 15 := by omega
          obtain ⟨l, hm, ok⟩ := g.ex
          obtain ⟨xb, xu, xt, hg, ob, ou, ot⟩ := g.w.ex
          have hl := fun {γ : Type} (K : Nat → Option γ) => own_len ob K
          simp only [encB_len] at hl
          simp only [ifB_beq, if_pos hk', loadS_mp g.c.gm, loadS_mp g.c.gf, loadS_mp g.c.gd, loadS_mp hg, List.drop_zero, takeO_one, bindO_ok, notNil_mp, chk_true, fldA_mp, Nat.zero_add, Nat.add_zero, hl, look_map hm, unT_tup, nthS_zero, nthS_one, asI_int, asB_bool]
          have hsome : (findM nm l).isSome = hasAny t nm fr := by
            rw [ok nm]
            exact seek_gr t.bs nm g.fr
          rw [hsome]
          refine Goes.bind (R := fun c => ∃ s', c = ([], s') ∧ Mt s' a ⟨t.bs, t.us, if hasAny t nm fr = true then t.tw ++ [t.bs.length] else t.tw⟩ ∧ Kt (· = a) st s') ?_ ?_
          · cases hq : hasAny t nm fr with
            | true =>
              obtain ⟨v', s1, fx, s2, fx2, hfine, hone, w2, k2, e1, e2⟩ := g.w.pushT (by have := hsm0.tw; omega) t.bs.length hg ob ou ot
              simp only [ifB_true, e1, List.drop_succ_cons, List.drop_zero, takeO_one, bindO_ok, hfine.l _ _ _ g.c.gm, Bool.and_self, chk_true, asOne_of hone, e2, if_true]
              exact Goes.some ⟨_, rfl, w2, k2⟩
            | false =>
              simp only [ifB_false, if_neg (show ¬ false = true by decide)]
              exact Goes.some ⟨_, rfl, g.w, Kt.refl _ _⟩
          rintro c ⟨s1, rfl, w1, k1⟩
          have hma : ∀ j, j = a → j = a ∨ j = m := fun j e => .inl e
          have c1 := g.c.keep g.w hm (k1.weak hma)
          have hma2 : m ≠ a := fun e => ne_map hg hm e.symm
          have m1 := k1.map (show ¬ m = a from hma2) hm
          have ro1 : s1.ro ≤ m := by rw [k1.ro]; exact g.ro
          have kp : Keeps s1 (s1.put m (.map (encM (setM nm t.bs.length l)))) (· = m) := Keeps.put rfl
          have w2 := w1.keep kp (fun e => hma2 e.symm) (fun j n' e hj hjm => by subst hjm; rw [m1] at hj; cases hj)
          have k2 := (k1.weak hma).trans (Kt.keeps (kp.weak (fun j e => .inr e)))
          have c2 := g.c.keep g.w hm k2
          have m2 : (s1.put m (.map (encM (setM nm t.bs.length l)))).get m = .ok (.map (encM (setM nm t.bs.length l))) := St.get_put_same (St.get_ok.1 m1).1
          obtain ⟨xb2, xu2, xt2, hg2, ob2, ou2, ot2⟩ := w2.ex
          obtain ⟨v', s4, fx4, s5, fx5, hfine4, hone4, w5, k5, e4, e5⟩ := w2.pushB (show t.bs.length ≤ 100000000 by have := hsm0.bs; omega) nm sp hg2 ob2 ou2 ot2
          simp only [un0_nil, loadS_mp c1.gf, loadS_mp c1.gd, List.drop_zero, takeO_one, bindO_ok, notNil_mp, chk_true, fldA_mp, Nat.zero_add, put_map m1 ro1, loadS_mp c2.gm, loadS_mp hg2, e4, hfine4.l _ _ _ c2.gm, Bool.and_self, asOne_of hone4, e5]
          have k6 := k2.trans (k5.weak hma)
          have m5 := k5.map (show ¬ m = a from hma2) m2
          refine Goes.some ⟨_, rfl, ⟨w5, g.c.keep g.w hm k6, ⟨_, m5, ?_⟩, hf1, by rw [k6.ro]; exact g.ro⟩, k6⟩
          have hb : (bindT fr nm sp t).bs = t.bs ++ [(nm, sp)] := rfl
          rw [hb, List.length_append]
          show MapOk _ _ (gr fr (t.bs.length + 1))
          rw [gr_succ g.fr]
          exact mapOk_set ok (fun i hi => gr_lt hi) nm sp
        · rw [if_neg hk] at hcase
          subst hcase
          have hk' : ¬ (k : Int) = 15 := by omega
          simp only [ifB_beq, if_neg hk']
          exact Goes.some ⟨_, rfl, g, Kt.refl _ _⟩
      rintro c ⟨s1, rfl, g1, k1⟩
      simp only [un0_nil, hy.len]
      refine Goes.bind (R := fun c => ∃ s' n', c = (n', [], s') ∧ Gs s' a xm xf xi id m f fr (grps fr ps t1 []).1 ∧ Kt (fun j => j = a ∨ j = m) st s')
        (Goes.upto (n := es.length) (I := fun i s => ∃ s' tj, s = ([.int .i64 (i : Int)], s') ∧ Gs s' a xm xf xi id m f fr tj ∧ Kt (fun j => j = a ∨ j = m) st s' ∧ (grps fr (ps.drop i) tj []).1 = (grps fr ps t1 []).1) ?_ ?_ es.length 0 _ (by omega) ⟨_, _, rfl, g1, k1, rfl⟩) ?_
      · rintro i s hi ⟨s2, tj, rfl, g2, k2, hgr⟩
        obtain ⟨q, r, hd⟩ := drop_at (l := ps) (i := i) (by rw [← hps.len]; exact hi)
        obtain ⟨v, hv, hQ, _⟩ := hps.get hd
        have hr2 := (drop_cons hd).2.1
        rw [hd] at hgr
        simp only [grps] at hgr
        have eg := ext_grp fr q tj [] g2.fr
        have hsq : Sm (grp fr q tj []).1 := by
          refine hsm.ext ?_
          rw [← hgr]
          exact (ext_grps fr r _ _ eg.2).1
        have hsz : SizeOf.sizeOf q < n := by
          have h1 := sz_drop ps i
          rw [hd] at h1
          simp only [List.cons.sizeOf_spec] at h1
          omega
        have hlt : (i : Int) < (es.length : Int) := by omega
        cases q with
        | mk kq lq spq nq qs =>
          have hQ0 := hQ
          obtain ⟨yq, eq, rfl, hyq, hqs⟩ := hQ.opn
          obtain ⟨s3, fx3, gv, k3, ev⟩ := lvP s2 kq lq spq nq yq g2.w.roh
          have g3 := g2.quiet k3
          have hcall := ih _ _ s3 a xm xf xi id m f fr tj hsz hQ0 g3 hsq
          simp only [w46_L1, unc_cons, asI_int, un0_nil, ifB_decide, if_pos hlt, hy.idx hv, AV.cells, loadS_ip, take6, bindO_ok, unA_agg, asS_str, letSt_eq, hyq.asOne, ev, loadS_mp g3.c.gi, loadS_mp gv, List.drop_zero, takeO_one, call_fn]
          refine Goes.callW hcall rfl (nb2 _ _ _ _ _) ?_
          rintro v4 s4 ⟨x4, s4', e4, g4, k4⟩
          cases e4
          simp only [letV_eq, wrap1 hi hyl]
          refine Goes.inl ?_
          refine ⟨_, _, rfl, g4, (k2.trans (Kt.keeps (k3.weak fun _ f => f.elim))).trans k4, ?_⟩
          rw [hr2, ← hgr]
          exact (grps_tab fr _).2 r _ _ _ (Nat.lt_succ_self _)
      · rintro s ⟨s2, tj, rfl, g2, k2, hgr⟩
        have hlt : ¬ (es.length : Int) < (es.length : Int) := by omega
        rw [List.drop_eq_nil_of_le (by rw [← hps.len]; exact Nat.le_refl _)] at hgr
        simp only [grps] at hgr
        simp only [w46_L1, unc_cons, asI_int, un0_nil, ifB_decide, if_neg hlt]
        refine Goes.inr ?_
        rw [← hgr]
        exact ⟨_, _, rfl, g2, k2⟩
      · rintro c ⟨s', n', rfl, g', k'⟩
        simp only [un0_nil]
        exact Goes.some ⟨_, _, rfl, g', k'⟩
end Go.Proofs.YtoopmjhdgkcleaaGreatDoor.Vm
/- The program's binders of a group and of a let. -/
set_option maxRecDepth 100000
set_option linter.unusedSimpArgs false
namespace Go.Proofs.YtoopmjhdgkcleaaGreatDoor.Vm
open Go Go.VM Go.Proofs Go.Scope

theorem nb1 (i o : Nat) (l : List AV) (b : Bool) : (bares ((.mp i o :: l).map VM.strip) && b) = false := by
  simp only [List.map_cons, bares_cons]
  have : VM.bare (VM.strip (.mp i o)) = false := rfl
  rw [this]
  simp
/-- A new frame. -/
structure Nf (st : St) (id : Nat) (f : AV) (bs : List (Tx × Sp)) (g : List Nat) : Prop where
  ex : ∃ m l, st.get id = .ok (.cells FT [.mm m, f]) ∧ st.get m = .ok (.map (encM l)) ∧ MapOk l bs g
theorem named {α : Type} (x : α) : ∃ y, x = y := ⟨x, rfl⟩
theorem binds_ok {ps : List Pat} {es : List AV} {y f : AV} {st : St} {a : Nat} {t : Tb} (hps : IsPs ps es) (hy : IsSl 6 y es) (w : Mt st a t) (hf : VM.one f = true) (hsm : Sm (binders ps t []).1) :
    Goes ((orc vE).wide 33 [.mp a 0, y, f] st) fun r => ∃ id st', r = (.mp id 0, st') ∧ Mt st' a (binders ps t []).1 ∧ Kt (· = a) st st' ∧ Nf st' id f (binders ps t []).1.bs (gr t.bs.length (binders ps t []).1.bs.length) ∧ st.h ≤ id := by
  have hyl := hy.1
  have hro := w.roh
  refine Goes.wide (Goes.step (w33_eq _ _ _ _) ?_)
  obtain ⟨s0, e0⟩ := named (st.add (.cells 67 [.mp a 0]))
  have h0 : s0.h = st.h + 1 := by rw [← e0]; rfl
  have k0 : Keeps st s0 (fun _ => False) := by rw [← e0]; exact Keeps.add _ _ _
  have g0 : s0.get st.h = .ok (.cells 67 [.mp a 0]) := by rw [← e0]; exact St.get_add_new
  obtain ⟨s1, e1⟩ := named (s0.add (.map []))
  have h1 : s1.h = s0.h + 1 := by rw [← e1]; rfl
  have k1 : Keeps s0 s1 (fun _ => False) := by rw [← e1]; exact Keeps.add _ _ _
  have g1 : s1.get s0.h = .ok (.map []) := by rw [← e1]; exact St.get_add_new
  obtain ⟨s2, e2⟩ := named (s1.add (.cells FT [.mm s0.h, f]))
  have h2 : s2.h = s1.h + 1 := by rw [← e2]; rfl
  have k2 : Keeps s1 s2 (fun _ => False) := by rw [← e2]; exact Keeps.add _ _ _
  have g2 : s2.get s1.h = .ok (.cells FT [.mm s0.h, f]) := by rw [← e2]; exact St.get_add_new
  have r2 : s2.ro ≤ s2.h := by rw [k2.ro, k1.ro, k0.ro]; omega
  obtain ⟨s3, g3, k3, h3, fx3, e3⟩ := local_var (O := orc vE) (st := s2) (t := 70) (z := 1) (old := [.nilp]) (cs := [.mp s1.h 0]) (.mp s1.h 0) rfl rfl r2
  have r3 : s3.ro ≤ s3.h := by rw [k3.ro, k2.ro, k1.ro, k0.ro]; omega
  obtain ⟨s4, g4, k4, h4, fx4, e4⟩ := local_var (O := orc vE) (st := s3) (t := 122) (z := 1) (old := [.nilfn]) (cs := [.fn (.func 46) [] [.mp st.h 0, .mp s2.h 0, .mp s3.h 0]]) (.fn (.func 46) [] [.mp st.h 0, .mp s2.h 0, .mp s3.h 0]) rfl rfl r3
  have k24 : Keeps s2 s4 (fun _ => False) := k3.trans k4
  have kall : Keeps st s4 (fun _ => False) := ((k0.trans k1).trans k2).trans k24
  have nf : ¬ False := fun h => h
  have G : Gs s4 a st.h s2.h s3.h s1.h s0.h f t.bs.length t :=
    ⟨w.keep kall nf (fun _ _ _ _ h => h), ⟨((k1.trans k2).trans k24).old _ _ nf g0, k4.old _ _ nf g3, g4, k24.old _ _ nf g2⟩, ⟨[], (k2.trans k24).old _ _ nf g1, by rw [gr_nil]; exact mapOk_nil _⟩, Nat.le_refl _, by rw [kall.ro, h0]; omega⟩
  simp only [w33, asOne_mp, letSt_eq, e0, e1, asOne_of hf, e2, e3, e4, hy.len]
  refine Goes.bind (R := fun c => ∃ s' n', c = (n', [], s') ∧ Gs s' a st.h s2.h s3.h s1.h s0.h f t.bs.length (binders ps t []).1 ∧ Kt (fun j => j = a ∨ j = s0.h) s4 s')
    (Goes.upto (n := es.length) (I := fun i s => ∃ s' tj, s = ([.int .i64 (i : Int)], s') ∧ Gs s' a st.h s2.h s3.h s1.h s0.h f t.bs.length tj ∧ Kt (fun j => j = a ∨ j = s0.h) s4 s' ∧ (grps t.bs.length (ps.drop i) tj []).1 = (binders ps t []).1) ?_ ?_ es.length 0 _ (by omega) ⟨_, _, rfl, G, Kt.refl _ _, rfl⟩) ?_
  · rintro i s hi ⟨s5, tj, rfl, g5, k5, hgr⟩
    obtain ⟨q, r, hd⟩ := drop_at (l := ps) (i := i) (by rw [← hps.len]; exact hi)
    obtain ⟨v, hv, hQ, _⟩ := hps.get hd
    have hr2 := (drop_cons hd).2.1
    rw [hd] at hgr
    simp only [grps] at hgr
    have eg := ext_grp t.bs.length q tj [] g5.fr
    have hsq : Sm (grp t.bs.length q tj []).1 := by
      refine hsm.ext ?_
      rw [← hgr]
      exact (ext_grps t.bs.length r _ _ eg.2).1
    have hlt : (i : Int) < (es.length : Int) := by omega
    cases q with
    | mk kq lq spq nq qs =>
      have hQ0 := hQ
      obtain ⟨yq, eq, rfl, hyq, hqs⟩ := hQ.opn
      obtain ⟨s6, fx6, gv, k6, ev⟩ := lvP s5 kq lq spq nq yq g5.w.roh
      have g6 := g5.quiet k6
      have hcall := in_ok _ _ _ s6 a st.h s2.h s3.h s1.h s0.h f t.bs.length tj (Nat.lt_succ_self _) hQ0 g6 hsq
      simp only [w33_L1, unc_cons, asI_int, un0_nil, ifB_decide, if_pos hlt, hy.idx hv, AV.cells, loadS_ip, take6, bindO_ok, unA_agg, asS_str, letSt_eq, hyq.asOne, ev, loadS_mp g6.c.gi, loadS_mp gv, List.drop_zero, takeO_one, call_fn2]
      refine Goes.callW hcall rfl (nb2 _ _ _ _ _) ?_
      rintro v7 s7 ⟨x7, s7', e7, g7, k7⟩
      cases e7
      simp only [letV_eq, wrap1 hi hyl]
      refine Goes.inl ?_
      refine ⟨_, _, rfl, g7, (k5.trans (Kt.keeps (k6.weak fun _ f => f.elim))).trans k7, ?_⟩
      rw [hr2, ← hgr]
      exact (grps_tab _ _).2 r _ _ _ (Nat.lt_succ_self _)
  · rintro s ⟨s5, tj, rfl, g5, k5, hgr⟩
    have hlt : ¬ (es.length : Int) < (es.length : Int) := by omega
    rw [List.drop_eq_nil_of_le (by rw [← hps.len]; exact Nat.le_refl _)] at hgr
    simp only [grps] at hgr
    simp only [w33_L1, unc_cons, asI_int, un0_nil, ifB_decide, if_neg hlt]
    refine Goes.inr ?_
    rw [← hgr]
    exact ⟨_, _, rfl, g5, k5⟩
  · rintro c ⟨s', n', rfl, g', k'⟩
    simp only [un0_nil, loadS_mp g'.c.gf, List.drop_zero, takeO_one, bindO_ok]
    obtain ⟨l, hm, ok⟩ := g'.ex
    have k9 : Kt (· = a) st s' := (Kt.keeps (kall.weak fun _ f => f.elim)).join k' fun j hj => by
      rcases hj with rfl | rfl
      · exact .inl rfl
      · exact .inr (by omega)
    exact Goes.some ⟨_, _, rfl, g'.w, k9, ⟨_, l, g'.c.gd, hm, ok⟩, by omega⟩
theorem Ch.go {st st' : St} {a : Nat} {t t' : Tb} {f : AV} {bd : List Nat} {but : Nat → Prop} (c : Ch st t.bs f bd) (hin : In t bd) (w : Mt st a t) (k : Kt but st st') (hb : ∀ j, but j → j = a ∨ st.h ≤ j) (e : Ext t t') : Ch st' t'.bs f bd := by
  obtain ⟨xb, xu, xt, hg, _⟩ := w.ex
  obtain ⟨x, hx⟩ := e.bs
  rw [hx]
  refine c.keep k (fun i cs hi hj => ?_) (fun i es hi hj => ?_) x hin
  · rcases hb i hj with h | h
    · exact ne_ty hi hg (by decide) h
    · have := (St.get_ok.1 hi).1; omega
  · rcases hb i hj with h | h
    · exact ne_map hg hi h.symm
    · have := (St.get_ok.1 hi).1; omega
/-- A new frame around another one. -/
theorem Nf.ch {st : St} {id : Nat} {f : AV} {bs : List (Tx × Sp)} {g bd : List Nat} (n : Nf st id f bs g) (c : Ch st bs f bd) : Ch st bs (.mp id 0) (bd ++ g) := by
  obtain ⟨m, l, hd, hm, ok⟩ := n.ex
  exact Ch.cons hd hm ok c
theorem cutk {z : Nat} {x : AV} {es : List AV} (h : IsSl z x es) : (∃ x', IsSl z x' (es.take 1) ∧ ∀ {β : Type} (K : AV → Option β), sliceS z x none (some ((min 1 es.length : Nat) : Int)) none K = K x') ∧ ∃ x', IsSl z x' (es.drop 1) ∧ ∀ {β : Type} (K : AV → Option β), sliceS z x (some ((min 1 es.length : Nat) : Int)) none none K = K x' := by
  have ht : es.take (min 1 es.length) = es.take 1 := by rw [List.take_eq_take_iff]; omega
  have hd : es.drop (min 1 es.length) = es.drop 1 := by
    cases es with
    | nil => rfl
    | cons a l => simp
  constructor
  · obtain ⟨x', hx, e⟩ := h.cut (lo := none) (hi := some ((min 1 es.length : Nat) : Int)) (l := 0) (m := min 1 es.length) rfl (hiO_nat (by omega))
    exact ⟨x', by rw [List.drop_zero, ht] at hx; exact hx, e⟩
  · obtain ⟨x', hx, e⟩ := h.cut (lo := some ((min 1 es.length : Nat) : Int)) (hi := none) (l := min 1 es.length) (m := es.length) (hiO_nat (by omega)) rfl
    exact ⟨x', by rw [List.take_length, hd] at hx; exact hx, e⟩
theorem min1 (k : Nat) : (if (k : Int) < 1 then (k : Int) else 1) = ((min 1 k : Nat) : Int) := by
  split <;> omega
/-- A let's frames. -/
def Tw (st : St) (a : Nat) (T : Tb × List Nat × List Nat) (r : AV × St) : Prop := ∃ f1 f2 st', r = (.tup [f1, f2], st') ∧ Mt st' a T.1 ∧ Ch st' T.1.bs f1 T.2.1 ∧ Ch st' T.1.bs f2 T.2.2 ∧ Kt (· = a) st st'
theorem twos_ok {rc : Bool} {ps : List Pat} {es : List AV} {y f : AV} {st : St} {a : Nat} {t : Tb} {bd : List Nat} (hps : IsPs ps es) (hy : IsSl 6 y es) (w : Mt st a t) (hc : Ch st t.bs f bd) (hin : In t bd) (hsm : Sm (two rc ps t bd).1) :
    Goes ((orc vE).wide 22 [.mp a 0, .bool rc, y, f] st) (Tw st a (two rc ps t bd)) := by
  obtain ⟨⟨y1, h1, e1⟩, y2, h2, e2⟩ := cutk hy
  obtain ⟨t1, ht1⟩ := named (binders (ps.take 1) t []).1
  obtain ⟨t2, ht2⟩ := named (binders (ps.drop 1) t1 []).1
  have hT : two rc ps t bd = (t2, bd ++ gr t.bs.length t1.bs.length, (if rc = true then bd ++ gr t.bs.length t1.bs.length else bd) ++ gr t1.bs.length t2.bs.length) := by
    have b1 : (binders (ps.take 1) t bd).1 = t1 := by rw [← ht1]; exact binders_tab _ _ _ _
    have b2 : (binders (ps.take 1) t bd).2 = bd ++ gr t.bs.length t1.bs.length := by rw [binders_gr, b1]
    have b3 : ∀ b, (binders (ps.drop 1) t1 b).1 = t2 := fun b => by rw [← ht2]; exact binders_tab _ _ _ _
    have b4 : ∀ b, (binders (ps.drop 1) t1 b).2 = b ++ gr t1.bs.length t2.bs.length := fun b => by rw [binders_gr, b3]
    unfold two
    dsimp only
    rw [b1, b2, b3, b4]
  rw [hT] at hsm ⊢
  have x1 : Ext t t1 := by rw [← ht1]; exact binders_ext _ _ _
  have x2 : Ext t1 t2 := by rw [← ht2]; exact binders_ext _ _ _
  have hs2 : Sm t2 := hsm
  have hs1 : Sm t1 := hs2.ext x2
  refine Goes.wide (Goes.step (w22_eq _ _ _ _ _) ?_)
  simp only [w22, asB_bool, hy.len, letV_eq, min1, e1]
  refine Goes.callW (binds_ok (IsPs.take 1 hps) h1 w hc.one (by rw [ht1]; exact hs1)) rfl (nb1 _ _ _ _) ?_
  rintro v3 s3 ⟨id1, s3', q3, w3, k3, n3, l3⟩
  cases q3
  rw [ht1] at w3 n3
  have c3 : Ch s3 t1.bs f bd := hc.go hin w k3 (fun j e => .inl e) x1
  have cf3 : Ch s3 t1.bs (.mp id1 0) (bd ++ gr t.bs.length t1.bs.length) := n3.ch c3
  have hin1 : In t1 bd := hin.ext x1
  have hinf : In t1 (bd ++ gr t.bs.length t1.bs.length) := fun i hi => by
    rcases List.mem_append.1 hi with h | h
    · exact hin1 i h
    · exact gr_lt h
  simp only [e2]
  refine Goes.callW (binds_ok (IsPs.drop 1 hps) h2 w3 hc.one (by rw [ht2]; exact hs2)) rfl (nb1 _ _ _ _) ?_
  rintro v5 s5 ⟨id2, s5', q5, w5, k5, n5, l5⟩
  cases q5
  rw [ht2] at w5 n5
  have c5 : Ch s5 t2.bs f bd := c3.go hin1 w3 k5 (fun j e => .inl e) x2
  cases rc with
  | false =>
    simp only [ifB_false, bindO_ok, un0_nil]
    exact Goes.some ⟨_, _, _, rfl, w5, cf3.go hinf w3 k5 (fun j e => .inl e) x2, n5.ch c5, k3.trans k5⟩
  | true =>
    obtain ⟨m2, l2, hd2, hm2, ok2⟩ := n5.ex
    have r5 : s5.ro ≤ id2 := by
      rw [k5.ro, k3.ro]
      have := w.roh
      have := k3.h
      omega
    obtain ⟨s6, e6⟩ := named (s5.put id2 (.cells FT [.mm m2, .mp id1 0]))
    have kp : Keeps s5 s6 (· = id2) := by rw [← e6]; exact Keeps.put rfl
    have est : ∀ {β : Type} (K : Kv β), storeS (orc vE) 1 (.mp id2 1) (.mp id1 0) [.mp id1 0] s5 K = K VM.undef s6 ⟨[id2], .wrote id2 (.cells FT [.mm m2, .mp id1 0])⟩ := fun K => by
      rw [← e6]
      exact storeS_at (cs := [.mp id1 0]) (z := 1) hd2 rfl (Nat.le_of_ble_eq_true rfl) r5 K
    obtain ⟨xb, xu, xt, hg5, _⟩ := w5.ex
    have hne : id2 ≠ a := ne_ty hd2 hg5 (by decide)
    have w6 : Mt s6 a t2 := w5.keep kp (fun e => hne e.symm) (fun j n e hj hji => by subst hji; rw [hd2] at hj; cases hj)
    have hd6 : s6.get id2 = .ok (.cells FT [.mm m2, .mp id1 0]) := by rw [← e6]; exact St.get_put_same (St.get_ok.1 hd2).1
    have hm6 := kp.old _ _ (fun e => ne_map hd2 hm2 e.symm) hm2
    have k56 : Kt (fun j => j = a ∨ s3.h ≤ j) s3 s6 := (k5.weak fun j e => .inl e).trans (Kt.keeps (kp.weak fun j e => .inr (by rw [e]; exact l5)))
    have cf6 : Ch s6 t2.bs (.mp id1 0) (bd ++ gr t.bs.length t1.bs.length) := cf3.go hinf w3 k56 (fun j e => e) x2
    simp only [ifB_true, notNil_mp, chk_true, fldA_mp, Nat.zero_add, asOne_mp, est, bindO_ok, un0_nil]
    refine Goes.some ⟨_, _, _, rfl, w6, cf6, ?_, k3.join k56 fun j e => ?_⟩
    · exact Ch.cons hd6 hm6 ok2 cf6
    · rcases e with e | e
      · exact .inl e
      · exact .inr (Nat.le_trans k3.h e)
end Go.Proofs.YtoopmjhdgkcleaaGreatDoor.Vm
/- The program's expressions. -/
set_option maxRecDepth 100000
set_option linter.unusedSimpArgs false
namespace Go.Proofs.YtoopmjhdgkcleaaGreatDoor.Vm
open Go Go.VM Go.Proofs Go.Scope

/-- A table at work, and what is bound at a frame. -/
structure At (st0 st : St) (a : Nat) (t : Tb) (f : AV) (bd : List Nat) : Prop where
  w : Mt st a t
  c : Ch st t.bs f bd
  i : In t bd
  k : Kt (· = a) st0 st
theorem At.go {st0 st st' : St} {a : Nat} {t t' : Tb} {f : AV} {bd : List Nat} (h : At st0 st a t f bd) (w : Mt st' a t') (k : Kt (· = a) st st') (e : Ext t t') : At st0 st' a t' f bd :=
  ⟨w, h.c.go h.i h.w k (fun _ e => .inl e) e, h.i.ext e, h.k.trans k⟩
theorem At.quiet {st0 st st' : St} {a : Nat} {t : Tb} {f : AV} {bd : List Nat} (h : At st0 st a t f bd) (k : Keeps st st' (fun _ => False)) : At st0 st' a t f bd :=
  h.go (h.w.keep k (fun f => f) (fun _ _ _ _ f => f)) (Kt.keeps (k.weak fun _ f => f.elim)) (Ext.refl t)
/-- Done: a table. -/
def Dm (a : Nat) (st : St) (t' : Tb) (q : AV × St) : Prop := ∃ v' st', q = (v', st') ∧ Mt st' a t' ∧ Kt (· = a) st st'
def ExM (n : Nat) : Prop := ∀ (e : Exr) (v : AV) (st : St) (a : Nat) (t : Tb) (bd : List Nat) (f : AV), SizeOf.sizeOf e < n → IsE e v → At st st a t f bd → Sm (expr e t bd) → Goes ((orc vE).wide 23 [.mp a 0, v, f] st) (Dm a st (expr e t bd))
theorem At.self {st0 st : St} {a : Nat} {t : Tb} {f : AV} {bd : List Nat} (h : At st0 st a t f bd) : At st st a t f bd := ⟨h.w, h.c, h.i, Kt.refl _ _⟩
/-- A local expression. -/
theorem lvE (st : St) (k : Nat) (sp : Sp) (rc : Bool) (nm : Tx) (x y : AV) (h : st.ro ≤ st.h) : ∃ st' fx, st'.get st.h = .ok (.cells 63 [.int .u8 (k : Int), .int .i64 sp.1, .int .i64 sp.2, .bool rc, .str nm, x, y]) ∧ Keeps st st' (fun _ => False) ∧
    ∀ {β : Type} (K : Kv β), storeS (orc vE) 7 (AV.mp st.h 0) (.agg [.int .u8 (k : Int), .int .i64 sp.1, .int .i64 sp.2, .bool rc, .str nm, x, y]) [.int .u8 (k : Int), .int .i64 sp.1, .int .i64 sp.2, .bool rc, .str nm, x, y]
      (st.add (.cells 63 [.int .u8 0, .int .i64 0, .int .i64 0, .bool false, .str [], .nils, .nils])) K = K VM.undef st' fx := by
  obtain ⟨st', g, k1, n, fx, e⟩ := local_var (O := orc vE) (st := st) (t := 63) (z := 7) (old := [.int .u8 0, .int .i64 0, .int .i64 0, .bool false, .str [], .nils, .nils]) (cs := [.int .u8 (k : Int), .int .i64 sp.1, .int .i64 sp.2, .bool rc, .str nm, x, y])
    (.agg [.int .u8 (k : Int), .int .i64 sp.1, .int .i64 sp.2, .bool rc, .str nm, x, y]) rfl rfl h
  exact ⟨st', fx, g, k1, e⟩
theorem exprm_of {n : Nat} (ih : ExM n) {l : List Exr} {es : List AV} {y : AV} {st : St} {a : Nat} {t : Tb} {bd : List Nat} {f : AV} (hsz : ∀ e ∈ l, SizeOf.sizeOf e < n) (hl : IsEs l es) (hy : IsSl 7 y es) (h : At st st a t f bd)
    (hsm : Sm (exprs l t bd)) : Goes ((orc vE).wide 35 [.mp a 0, y, f] st) (Dm a st (exprs l t bd)) := by
  have hyl := hy.1
  refine Goes.wide (Goes.step (w35_eq _ _ _ _) ?_)
  simp only [w35, hy.len]
  refine Goes.bind (R := fun c => ∃ s' n', c = (n', [], s') ∧ Mt s' a (exprs l t bd) ∧ Kt (· = a) st s')
    (Goes.upto (n := es.length) (I := fun i s => ∃ s' tj, s = ([.int .i64 (i : Int)], s') ∧ At st s' a tj f bd ∧ exprs (l.drop i) tj bd = exprs l t bd) ?_ ?_ es.length 0 _ (by omega) ⟨_, _, rfl, h, rfl⟩) ?_
  · rintro i s hi ⟨s2, tj, rfl, h2, hg⟩
    obtain ⟨q, r, hd⟩ := drop_at (l := l) (i := i) (by rw [← hl.len]; exact hi)
    obtain ⟨v, hv, hQ, _⟩ := hl.get hd
    have hr2 := (drop_cons hd).2.1
    have hq := hsz q (mem_drop hd)
    rw [hd] at hg
    simp only [exprs] at hg
    have hsq : Sm (expr q tj bd) := by
      refine hsm.ext ?_
      rw [← hg]
      exact ext_exprs r _ _
    have hlt : (i : Int) < (es.length : Int) := by omega
    have he := ext_expr q tj bd
    cases q with
    | mk kq spq rq nq qs lq =>
      have hQ0 := hQ
      obtain ⟨yq, eq, zq, fq, rfl, hyq, hqs, hzq, hlq⟩ := hQ.opn
      obtain ⟨s3, fx3, gv, k3, ev⟩ := lvE s2 kq spq rq nq yq zq h2.w.roh
      have h3 := h2.quiet k3
      have hcall := ih _ _ s3 a tj bd f hq hQ0 h3.self hsq
      simp only [w35_L1, unc_cons, asI_int, un0_nil, ifB_decide, if_pos hlt, hy.idx hv, AV.cells, loadS_ip, take7, bindO_ok, unA_agg, asS_str, asB_bool, letSt_eq, hyq.asOne, hzq.asOne, ev, loadS_mp gv, List.drop_zero]
      refine Goes.callW hcall rfl (nb1 _ _ _ _) ?_
      rintro v4 s4 ⟨x4, s4', e4, w4, k4⟩
      cases e4
      simp only [letV_eq, wrap1 hi hyl]
      refine Goes.inl ?_
      exact ⟨_, _, rfl, h3.go w4 k4 he, by rw [hr2]; exact hg⟩
  · rintro s ⟨s2, tj, rfl, h2, hg⟩
    have hlt : ¬ (es.length : Int) < (es.length : Int) := by omega
    rw [List.drop_eq_nil_of_le (by rw [← hl.len]; exact Nat.le_refl _)] at hg
    simp only [exprs] at hg
    simp only [w35_L1, unc_cons, asI_int, un0_nil, ifB_decide, if_neg hlt]
    refine Goes.inr ?_
    rw [← hg]
    exact ⟨_, _, rfl, h2.w, h2.k⟩
  · rintro c ⟨s', n', rfl, w', k'⟩
    simp only [un0_nil]
    exact Goes.some ⟨_, _, rfl, w', k'⟩
theorem max_int {a b : Nat} : (if (b : Int) > (a : Int) then (b : Int) else (a : Int)) = ((max a b : Nat) : Int) := by
  split <;> omega
theorem armsm {n : Nat} (ih : ExM n) {ls : List Exr} {ps : List Pat} {es fs : List AV} {y z : AV} {st st0 : St} {a : Nat} {t : Tb} {bd : List Nat} {f : AV} (hsz : ∀ e ∈ ls, SizeOf.sizeOf e < n) (hps : IsPs ps es) (hy : IsSl 6 y es) (hl : IsEs ls fs) (hz : IsSl 7 z fs) (h : At st0 st a t f bd)
    (hfew : ps.length ≤ 100000000) (hsm : Sm (armsA (ls.drop 1) ps t bd)) :
    Goes (loopO (w23_L1 (.mp a 0) f y z ((min 1 fs.length : Nat) : Int) ((max es.length (fs.length - min 1 fs.length) : Nat) : Int)) ([.int .i64 0], st)) fun c => ∃ s' n', c = (n', [], s') ∧ Mt s' a (armsA (ls.drop 1) ps t bd) ∧ Kt (· = a) st0 s' := by
  have hzl := hz.1
  have hyl := hy.1
  have hlen := hl.len
  have hplen := hps.len
  have drop1 : ∀ i, ls.drop (min 1 fs.length + i) = ls.drop (i + 1) := fun i => by
    by_cases h0 : fs.length = 0
    · have : ls = [] := List.length_eq_zero_iff.1 (by omega)
      rw [this]; simp
    · congr 1; omega
  refine Goes.upto (n := max es.length (fs.length - min 1 fs.length)) (I := fun i s => ∃ s' tj, s = ([.int .i64 (i : Int)], s') ∧ At st0 s' a tj f bd ∧ armsA (ls.drop (i + 1)) (ps.drop i) tj bd = armsA (ls.drop 1) ps t bd) ?_ ?_ (max es.length (fs.length - min 1 fs.length)) 0 _ (by omega) ⟨_, _, rfl, h, rfl⟩
  · rintro i s hi ⟨s2, tj, rfl, h2, hg⟩
    have wi : IntKind.wrap .i64 ((i : Int) + 1) = ((i + 1 : Nat) : Int) := wrapA1 (by omega)
    have wk : IntKind.wrap .i64 (((min 1 fs.length : Nat) : Int) + (i : Int)) = ((min 1 fs.length + i : Nat) : Int) := wrapA (by omega)
    have q0 : (i : Int) < ((max es.length (fs.length - min 1 fs.length) : Nat) : Int) := by omega
    simp only [w23_L1, unc_cons, asI_int, un0_nil, ifB_decide, if_pos q0, hy.len, hz.len, letV_eq, wi, wk]
    have first : ∃ (tk : Tb) (bk : List Nat), (match ps.drop i with | [] => (tj, bd) | p :: _ => binders [p] tj bd) = (tk, bk) ∧ Ext tj tk := by
      cases hd : ps.drop i with
      | nil => exact ⟨tj, bd, rfl, Ext.refl _⟩
      | cons p r => exact ⟨(binders [p] tj bd).1, (binders [p] tj bd).2, rfl, binders_ext [p] tj bd⟩
    obtain ⟨tk, bk, hk, hek⟩ := first
    have hfin : armsA (ls.drop (i + 1)) (ps.drop i) tj bd = (match ls.drop (i + 1) with | [] => alls ((ps.drop i).drop 1) tk bd | e :: r => armsA r ((ps.drop i).drop 1) (expr e tk bk) bd) := by
      cases hP : ps.drop i with
      | nil =>
        rw [hP] at hk
        cases hk
        cases ls.drop (i + 1) with
        | nil => simp only [armsA, alls, List.drop_nil]
        | cons e r => simp only [armsA, List.drop_nil]
      | cons p r =>
        rw [hP] at hk
        simp only at hk
        cases ls.drop (i + 1) with
        | nil => simp only [armsA, alls, List.drop_succ_cons, List.drop_zero, hk]
        | cons e r => simp only [armsA, List.drop_succ_cons, List.drop_zero, hk]
    rw [hg] at hfin
    have hsk : Sm tk := by
      refine hsm.ext ?_
      rw [hfin]
      cases ls.drop (i + 1) with
      | nil => exact ext_alls _ _ _
      | cons e r => exact (ext_expr e tk bk).trans (ext_arms r _ _ _)
    refine Goes.bind (R := fun c => ∃ f' s', c = ([f'], s') ∧ At st0 s' a tk f' bk ∧ At st0 s' a tk f bd) ?_ ?_
    · by_cases hp : i < es.length
      · obtain ⟨p, r, hd⟩ := drop_at (l := ps) (i := i) (by omega)
        obtain ⟨y', hy', ey⟩ := cut_one hy hp
        have hps' : IsPs [p] ((es.take (i + 1)).drop i) := by
          rw [← take_drop_one hd]
          exact IsPs.drop i (IsPs.take (i + 1) hps)
        rw [hd] at hk
        simp only at hk
        have hq : (i : Int) < (es.length : Int) := by omega
        have h1 : (binders [p] tj bd).1 = tk := by rw [hk]
        have h1' : (binders [p] tj []).1 = tk := by rw [← h1]; exact binders_tab _ _ _ _
        have h3 : bk = bd ++ gr tj.bs.length tk.bs.length := by
          have := binders_gr [p] tj bd
          rw [hk] at this
          exact this
        simp only [if_pos hq, ey]
        refine Goes.callW (binds_ok hps' hy' h2.w h2.c.one (by rw [h1']; exact hsk)) rfl (nb1 _ _ _ _) ?_
        rintro v3 s3 ⟨id, s3', e3, w3, k3, n3, _⟩
        cases e3
        rw [h1'] at w3 n3
        have h4 := h2.go w3 k3 hek
        refine Goes.some ⟨_, _, rfl, ⟨w3, ?_, ?_, h4.k⟩, h4⟩
        · rw [h3]; exact n3.ch h4.c
        · rw [h3]
          intro j hj
          rcases List.mem_append.1 hj with hj | hj
          · exact h4.i j hj
          · exact gr_lt hj
      · have hq : ¬ (i : Int) < (es.length : Int) := by omega
        rw [List.drop_eq_nil_of_le (by omega)] at hk
        cases hk
        simp only [if_neg hq]
        exact Goes.some ⟨_, _, rfl, h2, h2⟩
    rintro c ⟨f1, s1, rfl, h1, h1'⟩
    simp only [unc_cons, un0_nil]
    refine Goes.bind (R := fun c => ∃ s' tl, c = ([], s') ∧ At st0 s' a tl f bd ∧ armsA (ls.drop (i + 1 + 1)) (ps.drop (i + 1)) tl bd = armsA (ls.drop 1) ps t bd) ?_ ?_
    · have hdd : (ps.drop i).drop 1 = ps.drop (i + 1) := by rw [List.drop_drop]
      rw [hdd] at hfin
      by_cases hp : min 1 fs.length + i < fs.length
      · have hm : min 1 fs.length = 1 := by omega
        obtain ⟨q, r, hd⟩ := drop_at (l := ls) (i := i + 1) (by omega)
        obtain ⟨v, hv, hQ, _⟩ := hl.get hd
        have hr2 := (drop_cons hd).2.1
        have hq := hsz q (mem_drop hd)
        rw [hd] at hfin
        simp only at hfin
        have hsq : Sm (expr q tk bk) := by
          refine hsm.ext ?_
          rw [hfin]
          exact ext_arms r _ _ _
        have hlt : ((min 1 fs.length + i : Nat) : Int) < (fs.length : Int) := by omega
        have hv' : fs[min 1 fs.length + i]? = some v := by rw [hm, Nat.add_comm]; exact hv
        have he := ext_expr q tk bk
        have hcall := ih q v s1 a tk bk f1 hq hQ h1.self hsq
        cases q with
        | mk kq spq rq nq qs lq =>
          obtain ⟨yq, eq, zq, fq, rfl, hyq, hqs, hzq, hlq⟩ := hQ.opn
          simp only [if_pos hlt, hz.idx hv', AV.cells, loadS_ip, take7, bindO_ok, unA_agg, unc_cons, asI_int, asS_str, asB_bool, un0_nil]
          refine Goes.callW hcall rfl (nb1 _ _ _ _) ?_
          rintro v3 s3 ⟨x3, s3', e3, w3, k3⟩
          cases e3
          exact Goes.some ⟨_, _, rfl, h1'.go w3 k3 he, by rw [hr2]; exact hfin.symm⟩
      · have hlt : ¬ ((min 1 fs.length + i : Nat) : Int) < (fs.length : Int) := by omega
        simp only [if_neg hlt]
        refine Goes.some ⟨_, _, rfl, h1', ?_⟩
        have hnil : ls.drop (i + 1) = [] := by rw [← drop1 i]; exact List.drop_eq_nil_of_le (by omega)
        have hnil2 : ls.drop (i + 1 + 1) = [] := by rw [← drop1 (i + 1)]; exact List.drop_eq_nil_of_le (by omega)
        rw [hnil] at hfin
        rw [hnil2]
        simp only at hfin
        simp only [armsA]
        exact hfin.symm
    rintro c ⟨s', tl, rfl, h', hg'⟩
    simp only [un0_nil]
    refine Goes.inl ?_
    exact ⟨_, _, rfl, h', hg'⟩
  · rintro s ⟨s2, tj, rfl, h2, hg⟩
    have q1 : ¬ ((max es.length (fs.length - min 1 fs.length) : Nat) : Int) < ((max es.length (fs.length - min 1 fs.length) : Nat) : Int) := by omega
    have hnil : ls.drop (max es.length (fs.length - min 1 fs.length) + 1) = [] := by
      rw [← drop1]
      exact List.drop_eq_nil_of_le (by omega)
    rw [hnil, List.drop_eq_nil_of_le (show ps.length ≤ max es.length (fs.length - min 1 fs.length) by omega)] at hg
    simp only [armsA, alls] at hg
    simp only [w23_L1, unc_cons, asI_int, un0_nil, ifB_decide, if_neg q1]
    refine Goes.inr ?_
    rw [← hg]
    exact ⟨_, _, rfl, h2.w, h2.k⟩
end Go.Proofs.YtoopmjhdgkcleaaGreatDoor.Vm
/- The program's table. -/
set_option maxRecDepth 100000
set_option linter.unusedSimpArgs false
namespace Go.Proofs.YtoopmjhdgkcleaaGreatDoor.Vm
open Go Go.VM Go.Proofs Go.Scope

theorem Goes.onSum {α β : Type} {I : α → Prop} {Q : β → Prop} {r : Sum α β} {f : α → Option β} (h : Lp I Q r) (g : ∀ a, I a → Goes (f a) Q) : Goes (VM.onSum r f) Q := by
  cases r with
  | inl a => exact g a h
  | inr b => exact ⟨b, rfl, h⟩
/-- What is left: expressions, at a frame. -/
def Mid (st : St) (a : Nat) (ls : List Exr) (fin : Tb) (p : List AV × St) : Prop := ∃ f s' tm bm, p = ([f], s') ∧ At st s' a tm f bm ∧ exprs ls tm bm = fin
theorem letA_split (ls : List Exr) (t : Tb) (b1 b2 : List Nat) : letA ls t b1 b2 = exprs (ls.drop 1) (exprs (ls.take 1) t b2) b1 := by
  cases ls with
  | nil => simp only [letA, List.drop_nil, List.take_nil, exprs]
  | cons a r => simp only [letA, List.drop_succ_cons, List.drop_zero, List.take_succ_cons, List.take_zero, exprs]
theorem matchA_split (ls : List Exr) (ps : List Pat) (t : Tb) (bd : List Nat) : matchA ls ps t bd = armsA (ls.drop 1) ps (exprs (ls.take 1) t bd) bd := by
  cases ls with
  | nil => simp only [matchA, List.drop_nil, List.take_nil, exprs, armsA]
  | cons a r => simp only [matchA, List.drop_succ_cons, List.drop_zero, List.take_succ_cons, List.take_zero, exprs]
theorem exprm_ok : ∀ n, ExM n := by
  intro n
  induction n with
  | zero => intro e v st a t bd f h; omega
  | succ n ih =>
    intro e v st a t bd f h hE hA hsm
    cases e with
    | mk k sp rc nm ps ls =>
      obtain ⟨y, es, z, fs, rfl, hy, hps, hz, hl⟩ := hE.opn
      have hfew := hE.few
      have hzl := hz.1
      simp only [Exr.mk.sizeOf_spec] at h
      have hsz : ∀ e ∈ ls, SizeOf.sizeOf e < n := fun e he => mem_lt he (show SizeOf.sizeOf ls < n by omega) (Nat.le_refl _)
      have hszt : ∀ e ∈ ls.take 1, SizeOf.sizeOf e < n := fun e he => hsz e (List.mem_of_mem_take he)
      have hszd : ∀ e ∈ ls.drop 1, SizeOf.sizeOf e < n := fun e he => hsz e (List.mem_of_mem_drop he)
      obtain ⟨⟨z1, hz1, ez1⟩, z2, hz2, ez2⟩ := cutk hz
      refine Goes.wide (Goes.step (w23_eq _ _ _ _) ?_)
      simp only [w23, unA_agg, unc_cons, asI_int, asS_str, asB_bool, un0_nil, hy.asOne, hz.asOne, hy.fit1, hz.fit1, hz.len, letV_eq, min1]
      refine Goes.bind (R := Lp (Mid st a ls (expr (.mk k sp rc nm ps ls) t bd)) (Dm a st (expr (.mk k sp rc nm ps ls) t bd))) ?_ ?_
      · by_cases h1 : k = 1
        · have q1 : (k : Int) = 1 := by omega
          have e0 : expr (.mk k sp rc nm ps ls) t bd = exprs ls (useT nm sp t bd) bd := by subst h1; simp only [expr]; rfl
          rw [e0] at hsm ⊢
          simp only [ifB_beq, if_pos q1]
          obtain ⟨xb, xu, xt, hg, ob, ou, ot⟩ := hA.w.ex
          have hsu : Sm (useT nm sp t bd) := hsm.ext (ext_exprs ls _ _)
          have hul : t.us.length ≤ 100000000 := by
            have := hsu.us
            simp only [useT, List.length_append] at this
            omega
          obtain ⟨q, hq, c1⟩ := call_find nm hA.c
          obtain ⟨v', s1, fx, s2, fx2, hfine, hone, w2, k2, e1, e2⟩ := hA.w.pushU hul nm sp (means t.bs nm bd) hg ob ou ot
          simp only [notNil_mp, chk_true, fldA_mp, Nat.zero_add, loadS_mp hg, List.drop_succ_cons, List.drop_zero, takeO_one, bindO_ok, c1, asI_int, hq, Bool.and_self, e1, hfine.l0, asOne_of hone, e2]
          refine Goes.inl ?_
          exact ⟨_, _, _, _, rfl, hA.go w2 k2 ⟨⟨[], by simp⟩, ⟨_, rfl⟩, ⟨[], by simp⟩⟩, rfl⟩
        have q1 : ¬ (k : Int) = 1 := by omega
        simp only [ifB_beq, if_neg q1]
        refine Goes.bind (R := Lp (Mid st a ls (expr (.mk k sp rc nm ps ls) t bd)) (Lp (Mid st a ls (expr (.mk k sp rc nm ps ls) t bd)) (Dm a st (expr (.mk k sp rc nm ps ls) t bd)))) ?_ ?_
        · by_cases h11 : k = 11
          · have q : (k : Int) = 11 := by omega
            have e0 : expr (.mk k sp rc nm ps ls) t bd = exprs ls (binders ps t bd).1 (binders ps t bd).2 := by simp only [expr, if_pos h11]
            rw [e0] at hsm ⊢
            simp only [if_pos q]
            have hsm1 : Sm (binders ps t bd).1 := hsm.ext (ext_exprs ls _ _)
            have hb1 : (binders ps t []).1 = (binders ps t bd).1 := binders_tab _ _ _ _
            refine Goes.callW (binds_ok hps hy hA.w hA.c.one (by rw [hb1]; exact hsm1)) rfl (nb1 _ _ _ _) ?_
            rintro v3 s3 ⟨id, s3', e3, w3, k3, n3, _⟩
            cases e3
            rw [hb1] at w3 n3
            have h4 := hA.go w3 k3 (binders_ext ps t bd)
            refine Goes.inl ?_
            refine ⟨_, _, (binders ps t bd).1, (binders ps t bd).2, rfl, ⟨w3, ?_, in_binders hA.i, h4.k⟩, rfl⟩
            rw [binders_gr]
            exact n3.ch h4.c
          have q11 : ¬ (k : Int) = 11 := by omega
          simp only [if_neg q11]
          by_cases h14 : k = 14
          · have q : (k : Int) = 14 := by omega
            have e0 : expr (.mk k sp rc nm ps ls) t bd = exprs (ls.drop 1) (exprs (ls.take 1) (two rc ps t bd).1 (two rc ps t bd).2.2) (two rc ps t bd).2.1 := by simp only [expr, if_neg h11, if_pos h14, letA_split]
            rw [e0] at hsm ⊢
            simp only [if_pos q]
            have hs2 : Sm (exprs (ls.take 1) (two rc ps t bd).1 (two rc ps t bd).2.2) := hsm.ext (ext_exprs _ _ _)
            have hs1 : Sm (two rc ps t bd).1 := hs2.ext (ext_exprs _ _ _)
            refine Goes.callW (twos_ok hps hy hA.w hA.c hA.i hs1) rfl (nb1 _ _ _ _) ?_
            rintro v3 s3 ⟨f1, f2, s3', e3, w3, c1, c2, k3⟩
            cases e3
            simp only [unT_tup, nthS_zero, nthS_one, ez1]
            have a2 : At s3 s3 a (two rc ps t bd).1 f2 (two rc ps t bd).2.2 := ⟨w3, c2, (in_two hA.i).2, Kt.refl _ _⟩
            have a1 : At s3 s3 a (two rc ps t bd).1 f1 (two rc ps t bd).2.1 := ⟨w3, c1, (in_two hA.i).1, Kt.refl _ _⟩
            refine Goes.callW (exprm_of ih hszt (IsEs.take 1 hl) hz1 a2 hs2) rfl (nb1 _ _ _ _) ?_
            rintro v5 s5 ⟨x5, s5', e5, w5, k5⟩
            cases e5
            have a5 := a1.go w5 k5 (ext_exprs _ _ _)
            simp only [ez2]
            refine Goes.callW (exprm_of ih hszd (IsEs.drop 1 hl) hz2 a5.self hsm) rfl (nb1 _ _ _ _) ?_
            rintro v7 s7 ⟨x7, s7', e7, w7, k7⟩
            cases e7
            refine Goes.inr ?_
            exact ⟨_, _, rfl, w7, (k3.trans k5).trans k7⟩
          have q14 : ¬ (k : Int) = 14 := by omega
          simp only [if_neg q14]
          by_cases h13 : k = 13
          · have q : (k : Int) = 13 := by omega
            have e0 : expr (.mk k sp rc nm ps ls) t bd = armsA (ls.drop 1) ps (exprs (ls.take 1) t bd) bd := by simp only [expr, if_neg h11, if_neg h14, if_pos h13, matchA_split]
            rw [e0] at hsm ⊢
            simp only [if_pos q, ez1]
            have hs1 : Sm (exprs (ls.take 1) t bd) := hsm.ext (ext_arms _ _ _ _)
            refine Goes.callW (exprm_of ih hszt (IsEs.take 1 hl) hz1 hA hs1) rfl (nb1 _ _ _ _) ?_
            rintro v3 s3 ⟨x3, s3', e3, w3, k3⟩
            cases e3
            have a3 := hA.go w3 k3 (ext_exprs _ _ _)
            have wk : IntKind.wrap .i64 ((fs.length : Int) - ((min 1 fs.length : Nat) : Int)) = ((fs.length - min 1 fs.length : Nat) : Int) := wrapS (by omega) (by omega)
            simp only [hy.len, hz.len, letV_eq, wk, max_int]
            refine Goes.bind (armsm ih hsz hps hy hl hz a3 hfew hsm) ?_
            rintro c ⟨s5, n5, rfl, w5, k5⟩
            simp only [un0_nil]
            refine Goes.inr ?_
            exact ⟨_, _, rfl, w5, k5⟩
          have q13 : ¬ (k : Int) = 13 := by omega
          have e0 : expr (.mk k sp rc nm ps ls) t bd = exprs ls t bd := by simp only [expr, if_neg h11, if_neg h14, if_neg h13, if_neg h1]
          rw [e0] at hsm ⊢
          simp only [if_neg q13]
          refine Goes.inl ?_
          exact ⟨_, _, _, _, rfl, hA, rfl⟩
        · intro c hc
          refine Goes.onSum hc ?_
          rintro p ⟨f', s', tm, bm, rfl, ha, hf⟩
          simp only [unc_cons, un0_nil]
          refine Goes.inl ?_
          exact ⟨_, _, _, _, rfl, ha, hf⟩
      · intro c hc
        refine Goes.onSum hc ?_
        rintro p ⟨f', s', tm, bm, rfl, ha, hf⟩
        simp only [unc_cons, un0_nil]
        rw [← hf] at hsm ⊢
        refine Goes.callW (exprm_of ih hsz hl hz ha.self hsm) rfl (nb1 _ _ _ _) ?_
        rintro v7 s7 ⟨x7, s7', e7, w7, k7⟩
        cases e7
        exact Goes.some ⟨_, _, rfl, w7, ha.k.trans k7⟩
end Go.Proofs.YtoopmjhdgkcleaaGreatDoor.Vm
/- The program's table, whole. -/
set_option maxRecDepth 100000
set_option linter.unusedSimpArgs false
namespace Go.Proofs.YtoopmjhdgkcleaaGreatDoor.Vm
open Go Go.VM Go.Proofs Go.Scope

/-- A local declaration. -/
theorem lvB (st : St) (cs : List AV) (hc : cs.length = 11) (h : st.ro ≤ st.h) : ∃ st' fx, st'.get st.h = .ok (.cells 65 cs) ∧ Keeps st st' (fun _ => False) ∧
    ∀ {β : Type} (K : Kv β), storeS (orc vE) 11 (AV.mp st.h 0) (.agg cs) cs
      (st.add (.cells 65 [.int .i64 0, .int .i64 0, .bool false, .nils, .int .u8 0, .int .i64 0, .int .i64 0, .bool false, .str [], .nils, .nils])) K = K VM.undef st' fx := by
  obtain ⟨st', g, k1, n, fx, e⟩ := local_var (O := orc vE) (st := st) (t := 65) (z := 11) (old := [.int .i64 0, .int .i64 0, .bool false, .nils, .int .u8 0, .int .i64 0, .int .i64 0, .bool false, .str [], .nils, .nils]) (cs := cs) (.agg cs) rfl hc h
  exact ⟨st', fx, g, k1, e⟩
theorem prog_of_ok {l : List Bd} {es : List AV} {x : AV} (hl : IsDs l es) (hx : IsSl 11 x es) (hsm : Sm (ofS l)) : Goes ((orc vE).bare 9 [x]) (IsTb (ofS l)) := by
  have hxl := hx.1
  refine Goes.bare rfl (Goes.step (g9_eq _) ?_)
  simp only [g9, hx.len]
  obtain ⟨w0, g0⟩ := start2 (t0 := 29) (t1 := MK) (TB := 36) (TU := 34) (TI := 3) (by decide)
  have A0 : At (T2 29 MK) (T2 29 MK) 1 Tb.none .nilp [] := ⟨w0, Ch.nil, (fun _ h => by cases h), Kt.refl _ _⟩
  refine Goes.bind (R := fun c => ∃ s' n', c = (n', [], s') ∧ Mt s' 1 (ofS l) ∧ Kt (· = 1) (T2 29 MK) s')
    (Goes.upto (n := es.length) (I := fun i s => ∃ f s' tj row, s = ([f, .int .i64 (i : Int)], s') ∧ At (T2 29 MK) s' 1 tj f row ∧ decls (l.drop i) tj row = ofS l) ?_ ?_ es.length 0 _ (by omega)
      ⟨.nilp, _, _, [], rfl, A0, rfl⟩) ?_
  · rintro i s hi ⟨f, s2, tj, row, rfl, h2, hg⟩
    obtain ⟨d, r, hd⟩ := drop_at (l := l) (i := i) (by rw [← hl.len]; exact hi)
    obtain ⟨v, hv, hD, _⟩ := hl.get hd
    have hr2 := (drop_cons hd).2.1
    rw [hd] at hg
    simp only [decls] at hg
    obtain ⟨k, sp, rc, nm, qs, ls, x1, es1, y, fs, z, hs, hb, rfl, hx1, hp1, hy, hq, hz, hl1, hE⟩ := hD.opn
    have hsm2 : Sm (expr d.body (two d.rc d.ps tj row).1 (two d.rc d.ps tj row).2.2) := by
      refine hsm.ext ?_
      rw [← hg]
      exact ext_decls r _ _
    have hsm1 : Sm (two d.rc d.ps tj row).1 := hsm2.ext (ext_expr _ _ _)
    have hlt : (i : Int) < (es.length : Int) := by omega
    obtain ⟨s3, fx3, gv, k3, ev⟩ := lvB s2 [.int .i64 d.sp.1, .int .i64 d.sp.2, .bool d.rc, x1, .int .u8 (k : Int), .int .i64 sp.1, .int .i64 sp.2, .bool rc, .str nm, y, z] rfl h2.w.roh
    have h3 := h2.quiet k3
    simp only [g9_L1, unc_cons, asI_int, un0_nil, ifB_decide, if_pos hlt, hx.idx hv, AV.cells, loadS_ip, take11, bindO_ok, unA_agg, asB_bool, asS_str, letSt_eq, hx1.asOne, hy.asOne, hz.asOne, ev, loadS_mp gv, List.drop_succ_cons, List.drop_zero, takeO_one]
    refine Goes.callW (twos_ok hp1 hx1 h3.w h3.c h3.i hsm1) rfl (nb1 _ _ _ _) ?_
    rintro v4 s4 ⟨f1, f2, s4', e4, w4, c1, c2, k4⟩
    cases e4
    have gv4 := k4.cells (show ¬ s2.h = 1 by
      have := h2.w.lt
      omega) gv
    simp only [unT_tup, nthS_zero, nthS_one, loadS_mp gv4, List.drop_succ_cons, List.drop_zero, take7, bindO_ok, unA_agg, unc_cons, asI_int, asB_bool, asS_str, un0_nil]
    rw [← hb] at hE
    have a2 : At s4 s4 1 (two d.rc d.ps tj row).1 f2 (two d.rc d.ps tj row).2.2 := ⟨w4, c2, (in_two h3.i).2, Kt.refl _ _⟩
    have a1 : At (T2 29 MK) s4 1 (two d.rc d.ps tj row).1 f1 (two d.rc d.ps tj row).2.1 := ⟨w4, c1, (in_two h3.i).1, h3.k.trans k4⟩
    refine Goes.callW (exprm_ok _ d.body _ s4 1 _ _ f2 (Nat.lt_succ_self _) hE a2 hsm2) rfl (nb1 _ _ _ _) ?_
    rintro v5 s5 ⟨x5, s5', e5, w5, k5⟩
    cases e5
    simp only [letV_eq, wrap1 hi hxl]
    refine Goes.inl ?_
    exact ⟨_, _, _, _, rfl, a1.go w5 k5 (ext_expr _ _ _), by rw [hr2]; exact hg⟩
  · rintro s ⟨f, s2, tj, row, rfl, h2, hg⟩
    have hlt : ¬ (es.length : Int) < (es.length : Int) := by omega
    rw [List.drop_eq_nil_of_le (by rw [← hl.len]; exact Nat.le_refl _)] at hg
    simp only [decls] at hg
    simp only [g9_L1, unc_cons, asI_int, un0_nil, ifB_decide, if_neg hlt]
    refine Goes.inr ?_
    rw [← hg]
    exact ⟨_, _, rfl, h2.w, h2.k⟩
  · rintro c ⟨s', n', rfl, w', k'⟩
    have h0 := k'.cells (by omega) g0
    obtain ⟨xb, xu, xt, s2, fx, v, o1, o2, o3, hv, hg, hg2, e1, e2⟩ := table_end w' h0 k'.ro
    simp only [un0_nil, loadS_mp hg, List.drop_zero, take3, bindO_ok, unA_agg, unc_cons, asOne_of o1, asOne_of o2, asOne_of o3, e1, loadS_mp hg2, e2]
    exact Goes.some hv
end Go.Proofs.YtoopmjhdgkcleaaGreatDoor.Vm
/- A table as the document's; the same tables; the same numbers. -/
set_option maxRecDepth 100000
set_option linter.unusedSimpArgs false
namespace Go.Proofs.YtoopmjhdgkcleaaGreatDoor.Vm
open Go Go.VM Go.Proofs Go.Scope

theorem take2b {a b c : AV} : takeO 2 true [a, b, c] = some (.agg [a, b]) := by rw [takeO_agg (by simp)]; rfl
/-! The same. -/
end Go.Proofs.YtoopmjhdgkcleaaGreatDoor.Vm
/- The law ScopeBound. -/
set_option maxRecDepth 100000
set_option linter.unusedSimpArgs false
namespace Go.Proofs.YtoopmjhdgkcleaaGreatDoor.Vm
open Go Go.VM Go.Proofs Go.Scope

/-- A table in a variable. -/
theorem lvT (st : St) {v1 v2 v3 : AV} (h : st.ro ≤ st.h) : ∃ st' fx, st'.get st.h = .ok (.cells 29 [v1, v2, v3]) ∧ Keeps st st' (fun _ => False) ∧ st'.h = st.h + 1 ∧
    ∀ {β : Type} (K : Kv β), storeS (orc vE) 3 (AV.mp st.h 0) (.agg [v1, v2, v3]) [v1, v2, v3] (st.add (.cells 29 [.nils, .nils, .nils])) K = K VM.undef st' fx := by
  obtain ⟨st', g, k1, n, fx, e⟩ := local_var (O := orc vE) (st := st) (t := 29) (z := 3) (old := [.nils, .nils, .nils]) (cs := [v1, v2, v3]) (.agg [v1, v2, v3]) rfl rfl h
  exact ⟨st', fx, g, k1, n, e⟩
end Go.Proofs.YtoopmjhdgkcleaaGreatDoor.Vm
