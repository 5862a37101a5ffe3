/-
  (A part of the proof: Env, F, L0, L1, L2, L3, L4, L5, L6, L7, L8, L9, L10, L11, L12, L13, L14, L16, L17, F7, L18.)
-/
import Derived.Test.YteajphhelkdjnaaDoorVmBC
import Derived.Test.YteajphhelkdjnaaDoorVmBJ
import Derived.Test.YteajphhelkdjnaaDoorVmCA
import Derived.Test.YteajphhelkdjnaaDoorVmBG
import Derived.Test.YteajphhelkdjnaaDoorVmBE
import Derived.Test.YteajphhelkdjnaaDoorVmAJ
import Derived.Test.YteajphhelkdjnaaDoorVmBI
import Derived.Test.YteajphhelkdjnaaDoorVmBF
import Derived.Test.YteajphhelkdjnaaDoorRows
import Derived.KernelRfl
set_option maxRecDepth 1000000
set_option maxHeartbeats 0
namespace Go.Proofs.YteajphhelkdjnaaDoor.Vm
open Go Go.VM Go.Proofs
noncomputable def vT : TT := (.node none (.node (some ⟨.func, 1, 8, [.nilfn], false, false⟩) (.node (some ⟨(.int .i64), 1, 8, [(.int .i64 (0))], false, false⟩) (.node (some ⟨(.struct [(0, 2), (1, 3), (2, 4), (3, 6)]), 4, 24, [(.int .i64 (0)), (.int .i64 (0)), (.bool false), (.int .u8 (0))], true, true⟩) (.node (some ⟨(.ptr 108), 1, 8, [.nilp], false, false⟩) (.node (some ⟨(.struct [(0, 5), (1, 9), (2, 3), (3, 30)]), 4, 56, [(.int .u8 (0)), (.str []), (.int .i64 (0)), .nils], true, true⟩) (.node (some ⟨(.struct [(0, 24), (4, 3), (5, 4)]), 6, 72, [(.int .u8 (0)), (.str []), (.int .i64 (0)), .nils, (.int .i64 (0)), (.bool false)], true, true⟩) .leaf .leaf) (.node (some ⟨.func, 1, 8, [.nilfn], false, false⟩) .leaf .leaf)) (.node (some ⟨.func, 1, 8, [.nilfn], false, false⟩) (.node (some ⟨(.arr 256 5), 256, 256, [(.int .u8 (0)), (.int .u8 (0)), (.int .u8 (0)), (.int .u8 (0)), (.int .u8 (0)), (.int .u8 (0)), (.int .u8 (0)), (.int .u8 (0)), (.int .u8 (0)), (.int .u8 (0)), (.int .u8 (0)), (.int .u8 (0)), (.int .u8 (0)), (.int .u8 (0)), (.int .u8 (0)), (.int .u8 (0)), (.int .u8 (0)), (.int .u8 (0)), (.int .u8 (0)), (.int .u8 (0)), (.int .u8 (0)), (.int .u8 (0)), (.int .u8 (0)), (.int .u8 (0)), (.int .u8 (0)), (.int .u8 (0)), (.int .u8 (0)), (.int .u8 (0)), (.int .u8 (0)), (.int .u8 (0)), (.int .u8 (0)), (.int .u8 (0)), (.int .u8 (0)), (.int .u8 (0)), (.int .u8 (0)), (.int .u8 (0)), (.int .u8 (0)), (.int .u8 (0)), (.int .u8 (0)), (.int .u8 (0)), (.int .u8 (0)), (.int .u8 (0)), (.int .u8 (0)), (.int .u8 (0)), (.int .u8 (0)), (.int .u8 (0)), (.int .u8 (0)), (.int .u8 (0)), (.int .u8 (0)), (.int .u8 (0)), (.int .u8 (0)), (.int .u8 (0)), (.int .u8 (0)), (.int .u8 (0)), (.int .u8 (0)), (.int .u8 (0)), (.int .u8 (0)), (.int .u8 (0)), (.int .u8 (0)), (.int .u8 (0)), (.int .u8 (0)), (.int .u8 (0)), (.int .u8 (0)), (.int .u8 (0)), (.int .u8 (0)), (.int .u8 (0)), (.int .u8 (0)), (.int .u8 (0)), (.int .u8 (0)), (.int .u8 (0)), (.int .u8 (0)), (.int .u8 (0)), (.int .u8 (0)), (.int .u8 (0)), (.int .u8 (0)), (.int .u8 (0)), (.int .u8 (0)), (.int .u8 (0)), (.int .u8 (0)), (.int .u8 (0)), (.int .u8 (0)), (.int .u8 (0)), (.int .u8 (0)), (.int .u8 (0)), (.int .u8 (0)), (.int .u8 (0)), (.int .u8 (0)), (.int .u8 (0)), (.int .u8 (0)), (.int .u8 (0)), (.int .u8 (0)), (.int .u8 (0)), (.int .u8 (0)), (.int .u8 (0)), (.int .u8 (0)), (.int .u8 (0)), (.int .u8 (0)), (.int .u8 (0)), (.int .u8 (0)), (.int .u8 (0)), (.int .u8 (0)), (.int .u8 (0)), (.int .u8 (0)), (.int .u8 (0)), (.int .u8 (0)), (.int .u8 (0)), (.int .u8 (0)), (.int .u8 (0)), (.int .u8 (0)), (.int .u8 (0)), (.int .u8 (0)), (.int .u8 (0)), (.int .u8 (0)), (.int .u8 (0)), (.int .u8 (0)), (.int .u8 (0)), (.int .u8 (0)), (.int .u8 (0)), (.int .u8 (0)), (.int .u8 (0)), (.int .u8 (0)), (.int .u8 (0)), (.int .u8 (0)), (.int .u8 (0)), (.int .u8 (0)), (.int .u8 (0)), (.int .u8 (0)), (.int .u8 (0)), (.int .u8 (0)), (.int .u8 (0)), (.int .u8 (0)), (.int .u8 (0)), (.int .u8 (0)), (.int .u8 (0)), (.int .u8 (0)), (.int .u8 (0)), (.int .u8 (0)), (.int .u8 (0)), (.int .u8 (0)), (.int .u8 (0)), (.int .u8 (0)), (.int .u8 (0)), (.int .u8 (0)), (.int .u8 (0)), (.int .u8 (0)), (.int .u8 (0)), (.int .u8 (0)), (.int .u8 (0)), (.int .u8 (0)), (.int .u8 (0)), (.int .u8 (0)), (.int .u8 (0)), (.int .u8 (0)), (.int .u8 (0)), (.int .u8 (0)), (.int .u8 (0)), (.int .u8 (0)), (.int .u8 (0)), (.int .u8 (0)), (.int .u8 (0)), (.int .u8 (0)), (.int .u8 (0)), (.int .u8 (0)), (.int .u8 (0)), (.int .u8 (0)), (.int .u8 (0)), (.int .u8 (0)), (.int .u8 (0)), (.int .u8 (0)), (.int .u8 (0)), (.int .u8 (0)), (.int .u8 (0)), (.int .u8 (0)), (.int .u8 (0)), (.int .u8 (0)), (.int .u8 (0)), (.int .u8 (0)), (.int .u8 (0)), (.int .u8 (0)), (.int .u8 (0)), (.int .u8 (0)), (.int .u8 (0)), (.int .u8 (0)), (.int .u8 (0)), (.int .u8 (0)), (.int .u8 (0)), (.int .u8 (0)), (.int .u8 (0)), (.int .u8 (0)), (.int .u8 (0)), (.int .u8 (0)), (.int .u8 (0)), (.int .u8 (0)), (.int .u8 (0)), (.int .u8 (0)), (.int .u8 (0)), (.int .u8 (0)), (.int .u8 (0)), (.int .u8 (0)), (.int .u8 (0)), (.int .u8 (0)), (.int .u8 (0)), (.int .u8 (0)), (.int .u8 (0)), (.int .u8 (0)), (.int .u8 (0)), (.int .u8 (0)), (.int .u8 (0)), (.int .u8 (0)), (.int .u8 (0)), (.int .u8 (0)), (.int .u8 (0)), (.int .u8 (0)), (.int .u8 (0)), (.int .u8 (0)), (.int .u8 (0)), (.int .u8 (0)), (.int .u8 (0)), (.int .u8 (0)), (.int .u8 (0)), (.int .u8 (0)), (.int .u8 (0)), (.int .u8 (0)), (.int .u8 (0)), (.int .u8 (0)), (.int .u8 (0)), (.int .u8 (0)), (.int .u8 (0)), (.int .u8 (0)), (.int .u8 (0)), (.int .u8 (0)), (.int .u8 (0)), (.int .u8 (0)), (.int .u8 (0)), (.int .u8 (0)), (.int .u8 (0)), (.int .u8 (0)), (.int .u8 (0)), (.int .u8 (0)), (.int .u8 (0)), (.int .u8 (0)), (.int .u8 (0)), (.int .u8 (0)), (.int .u8 (0)), (.int .u8 (0)), (.int .u8 (0)), (.int .u8 (0)), (.int .u8 (0)), (.int .u8 (0)), (.int .u8 (0)), (.int .u8 (0)), (.int .u8 (0)), (.int .u8 (0)), (.int .u8 (0)), (.int .u8 (0)), (.int .u8 (0))], true, false⟩) .leaf .leaf) (.node (some ⟨(.struct [(0, 109)]), 0, 0, [], true, false⟩) .leaf .leaf))) (.node (some ⟨(.struct [(0, 5), (1, 9), (2, 3), (3, 22)]), 4, 56, [(.int .u8 (0)), (.str []), (.int .i64 (0)), .nils], true, true⟩) (.node (some ⟨.func, 1, 8, [.nilfn], false, false⟩) (.node none .leaf .leaf) (.node none .leaf .leaf)) (.node (some ⟨(.struct [(0, 54), (2, 3), (3, 3)]), 4, 48, [.nilp, .nils, (.int .i64 (0)), (.int .i64 (0))], true, true⟩) (.node (some ⟨(.iface false), 1, 16, [.nili], false, false⟩) .leaf .leaf) (.node none .leaf .leaf)))) (.node (some ⟨.str, 1, 16, [(.str [])], false, false⟩) (.node (some ⟨(.struct [(0, 17)]), 1, 8, [.nilp], true, false⟩) (.node none (.node (some ⟨.func, 1, 8, [.nilfn], false, false⟩) .leaf .leaf) (.node (some ⟨.func, 1, 8, [.nilfn], false, false⟩) .leaf .leaf)) (.node (some ⟨(.ptr 54), 1, 8, [.nilp], false, false⟩) (.node (some ⟨.func, 1, 8, [.nilfn], false, false⟩) .leaf .leaf) (.node (some ⟨(.int .i32), 1, 4, [(.int .i32 (0))], false, false⟩) .leaf .leaf))) (.node (some ⟨(.int .i64), 1, 8, [(.int .i64 (0))], false, false⟩) (.node (some ⟨.func, 1, 8, [.nilfn], false, false⟩) (.node (some ⟨.func, 1, 8, [.nilfn], false, false⟩) .leaf .leaf) (.node (some ⟨(.struct [(0, 17), (1, 17), (2, 17), (3, 9)]), 4, 40, [.nilp, .nilp, .nilp, (.str [])], true, false⟩) .leaf .leaf)) (.node (some ⟨(.struct [(0, 32), (4, 3), (5, 4)]), 6, 72, [(.int .u8 (0)), (.str []), (.int .i64 (0)), .nils, (.int .i64 (0)), (.bool false)], true, true⟩) (.node (some ⟨(.ptr 5), 1, 8, [.nilp], false, false⟩) .leaf .leaf) (.node none .leaf .leaf))))) (.node (some ⟨(.int .u8), 1, 1, [(.int .u8 (0))], false, false⟩) (.node (some ⟨.str, 1, 16, [(.str [])], false, false⟩) (.node (some ⟨(.ptr 118), 1, 8, [.nilp], false, false⟩) (.node (some ⟨.func, 1, 8, [.nilfn], false, false⟩) (.node (some ⟨(.slice 64), 1, 24, [.nils], false, false⟩) .leaf .leaf) (.node (some ⟨.func, 1, 8, [.nilfn], false, false⟩) .leaf .leaf)) (.node (some ⟨.func, 1, 8, [.nilfn], false, false⟩) (.node (some ⟨(.struct [(0, 5), (1, 5)]), 2, 2, [(.int .u8 (0)), (.int .u8 (0))], true, true⟩) .leaf .leaf) (.node (some ⟨(.int .u8), 1, 1, [(.int .u8 (0))], false, false⟩) .leaf .leaf))) (.node (some ⟨.func, 1, 8, [.nilfn], false, false⟩) (.node (some ⟨.func, 1, 8, [.nilfn], false, false⟩) (.node (some ⟨.func, 1, 8, [.nilfn], false, false⟩) .leaf .leaf) (.node (some ⟨.func, 1, 8, [.nilfn], false, false⟩) .leaf .leaf)) (.node (some ⟨.func, 1, 8, [.nilfn], false, false⟩) (.node (some ⟨.func, 1, 8, [.nilfn], false, false⟩) .leaf .leaf) (.node none .leaf .leaf)))) (.node (some ⟨(.struct [(0, 9), (1, 12)]), 2, 24, [(.str []), (.int .u64 (0))], true, false⟩) (.node (some ⟨(.int .i32), 1, 4, [(.int .i32 (0))], false, false⟩) (.node (some ⟨.func, 1, 8, [.nilfn], false, false⟩) (.node (some ⟨.func, 1, 8, [.nilfn], false, false⟩) .leaf .leaf) (.node none .leaf .leaf)) (.node (some ⟨(.struct [(0, 51), (1, 52)]), 2, 32, [.nilp, .nils], true, true⟩) (.node (some ⟨.func, 1, 8, [.nilfn], false, false⟩) .leaf .leaf) (.node (some ⟨(.struct [(0, 12), (1, 12), (2, 100), (3, 112), (4, 5), (5, 5), (6, 113), (7, 114), (8, 91), (9, 115), (10, 116)]), 11, 48, [(.int .u64 (0)), (.int .u64 (0)), (.int .u32 (0)), (.int .u8 (0)), (.int .u8 (0)), (.int .u8 (0)), (.int .u8 (0)), .nilfn, .nilp, (.int .i32 (0)), (.int .i32 (0))], true, false⟩) .leaf .leaf))) (.node (some ⟨.func, 1, 8, [.nilfn], false, false⟩) (.node (some ⟨.func, 1, 8, [.nilfn], false, false⟩) (.node (some ⟨.func, 1, 8, [.nilfn], false, false⟩) .leaf .leaf) (.node (some ⟨(.arr 0 16), 0, 0, [], true, false⟩) .leaf .leaf)) (.node (some ⟨(.slice 59), 1, 24, [.nils], false, false⟩) (.node none .leaf .leaf) (.node none .leaf .leaf)))))) (.node (some ⟨(.int .i64), 1, 8, [(.int .i64 (0))], false, false⟩) (.node (some ⟨.bool, 1, 1, [(.bool false)], false, false⟩) (.node (some ⟨(.struct [(0, 2), (1, 3), (2, 4), (3, 6)]), 4, 24, [(.int .i64 (0)), (.int .i64 (0)), (.bool false), (.int .u8 (0))], true, true⟩) (.node (some ⟨(.ptr 111), 1, 8, [.nilp], false, false⟩) (.node (some ⟨(.struct [(0, 5), (1, 9), (2, 3), (3, 30)]), 4, 56, [(.int .u8 (0)), (.str []), (.int .i64 (0)), .nils], true, true⟩) (.node (some ⟨(.struct [(0, 24), (4, 3), (5, 4)]), 6, 72, [(.int .u8 (0)), (.str []), (.int .i64 (0)), .nils, (.int .i64 (0)), (.bool false)], true, true⟩) .leaf .leaf) (.node (some ⟨.func, 1, 8, [.nilfn], false, false⟩) .leaf .leaf)) (.node (some ⟨.func, 1, 8, [.nilfn], false, false⟩) (.node (some ⟨(.struct [(0, 5), (1, 5)]), 2, 2, [(.int .u8 (0)), (.int .u8 (0))], true, true⟩) .leaf .leaf) (.node (some ⟨(.int .u8), 1, 1, [(.int .u8 (0))], false, false⟩) .leaf .leaf))) (.node (some ⟨(.struct [(0, 5), (1, 9), (2, 3), (3, 22)]), 4, 56, [(.int .u8 (0)), (.str []), (.int .i64 (0)), .nils], true, true⟩) (.node (some ⟨.func, 1, 8, [.nilfn], false, false⟩) (.node (some ⟨.func, 1, 8, [.nilfn], false, false⟩) .leaf .leaf) (.node (some ⟨.func, 1, 8, [.nilfn], false, false⟩) .leaf .leaf)) (.node (some ⟨(.struct [(0, 54), (2, 3), (3, 3)]), 4, 48, [.nilp, .nils, (.int .i64 (0)), (.int .i64 (0))], true, true⟩) (.node none .leaf .leaf) (.node none .leaf .leaf)))) (.node (some ⟨(.int .u64), 1, 8, [(.int .u64 (0))], false, false⟩) (.node (some ⟨(.iface true), 1, 16, [.nili], false, false⟩) (.node (some ⟨.func, 1, 8, [.nilfn], false, false⟩) (.node (some ⟨.func, 1, 8, [.nilfn], false, false⟩) .leaf .leaf) (.node (some ⟨(.int .u32), 1, 4, [(.int .u32 (0))], false, false⟩) .leaf .leaf)) (.node (some ⟨(.slice 5), 1, 24, [.nils], false, false⟩) (.node (some ⟨.func, 1, 8, [.nilfn], false, false⟩) .leaf .leaf) (.node (some ⟨(.int .i32), 1, 4, [(.int .i32 (0))], false, false⟩) .leaf .leaf))) (.node none (.node (some ⟨(.int .u64), 1, 8, [(.int .u64 (0))], false, false⟩) (.node (some ⟨.func, 1, 8, [.nilfn], false, false⟩) .leaf .leaf) (.node (some ⟨(.struct [(0, 17), (1, 17), (2, 17), (3, 9)]), 4, 40, [.nilp, .nilp, .nilp, (.str [])], true, false⟩) .leaf .leaf)) (.node (some ⟨(.slice 59), 1, 24, [.nils], false, false⟩) (.node (some ⟨(.int .u64), 1, 8, [(.int .u64 (0))], false, false⟩) .leaf .leaf) (.node none .leaf .leaf))))) (.node (some ⟨(.int .u8), 1, 1, [(.int .u8 (0))], false, false⟩) (.node (some ⟨.str, 1, 16, [(.str [])], false, false⟩) (.node (some ⟨(.struct [(0, 17)]), 1, 8, [.nilp], true, false⟩) (.node (some ⟨.func, 1, 8, [.nilfn], false, false⟩) (.node (some ⟨.func, 1, 8, [.nilfn], false, false⟩) .leaf .leaf) (.node (some ⟨.uptr, 1, 8, [.nilp], false, false⟩) .leaf .leaf)) (.node (some ⟨(.ptr 56), 1, 8, [.nilp], false, false⟩) (.node (some ⟨(.arr 16 81), 32, 32, [(.int .u8 (0)), (.int .u8 (0)), (.int .u8 (0)), (.int .u8 (0)), (.int .u8 (0)), (.int .u8 (0)), (.int .u8 (0)), (.int .u8 (0)), (.int .u8 (0)), (.int .u8 (0)), (.int .u8 (0)), (.int .u8 (0)), (.int .u8 (0)), (.int .u8 (0)), (.int .u8 (0)), (.int .u8 (0)), (.int .u8 (0)), (.int .u8 (0)), (.int .u8 (0)), (.int .u8 (0)), (.int .u8 (0)), (.int .u8 (0)), (.int .u8 (0)), (.int .u8 (0)), (.int .u8 (0)), (.int .u8 (0)), (.int .u8 (0)), (.int .u8 (0)), (.int .u8 (0)), (.int .u8 (0)), (.int .u8 (0)), (.int .u8 (0))], true, false⟩) .leaf .leaf) (.node (some ⟨.func, 1, 8, [.nilfn], false, false⟩) .leaf .leaf))) (.node (some ⟨.func, 1, 8, [.nilfn], false, false⟩) (.node (some ⟨.func, 1, 8, [.nilfn], false, false⟩) (.node (some ⟨.func, 1, 8, [.nilfn], false, false⟩) .leaf .leaf) (.node (some ⟨.func, 1, 8, [.nilfn], false, false⟩) .leaf .leaf)) (.node (some ⟨(.struct [(0, 32), (4, 3), (5, 4)]), 6, 72, [(.int .u8 (0)), (.str []), (.int .i64 (0)), .nils, (.int .i64 (0)), (.bool false)], true, true⟩) (.node (some ⟨.func, 1, 8, [.nilfn], false, false⟩) .leaf .leaf) (.node none .leaf .leaf)))) (.node (some ⟨(.struct [(0, 9), (1, 12)]), 2, 24, [(.str []), (.int .u64 (0))], true, false⟩) (.node (some ⟨(.slice 24), 1, 24, [.nils], false, false⟩) (.node (some ⟨.func, 1, 8, [.nilfn], false, false⟩) (.node (some ⟨.func, 1, 8, [.nilfn], false, false⟩) .leaf .leaf) (.node (some ⟨.func, 1, 8, [.nilfn], false, false⟩) .leaf .leaf)) (.node (some ⟨(.struct [(0, 51), (1, 52)]), 2, 32, [.nilp, .nils], true, true⟩) (.node (some ⟨(.iface false), 1, 16, [.nili], false, false⟩) .leaf .leaf) (.node (some ⟨(.struct [(0, 12), (1, 12), (2, 100), (3, 112), (4, 5), (5, 5), (6, 113), (7, 114), (8, 91), (9, 115), (10, 116)]), 11, 48, [(.int .u64 (0)), (.int .u64 (0)), (.int .u32 (0)), (.int .u8 (0)), (.int .u8 (0)), (.int .u8 (0)), (.int .u8 (0)), .nilfn, .nilp, (.int .i32 (0)), (.int .i32 (0))], true, false⟩) .leaf .leaf))) (.node (some ⟨(.slice 32), 1, 24, [.nils], false, false⟩) (.node (some ⟨.func, 1, 8, [.nilfn], false, false⟩) (.node (some ⟨.func, 1, 8, [.nilfn], false, false⟩) .leaf .leaf) (.node (some ⟨(.struct [(0, 109)]), 0, 0, [], true, false⟩) .leaf .leaf)) (.node (some ⟨.func, 1, 8, [.nilfn], false, false⟩) (.node (some ⟨.func, 1, 8, [.nilfn], false, false⟩) .leaf .leaf) (.node none .leaf .leaf)))))))
theorem vT_ok : TOk Tryd.prog vT := tt_ok (d := 7) (by kernel_rfl)
noncomputable def vF : Tr Func := (.node none (.node none (.node (some Tryd.f3) (.node (some Tryd.f7) (.node (some Tryd.f15) (.node (some Tryd.f31) (.node none .leaf .leaf) .leaf) (.node none (.node none .leaf .leaf) .leaf)) (.node (some Tryd.f23) (.node (some Tryd.f39) (.node none .leaf .leaf) .leaf) (.node none (.node none .leaf .leaf) .leaf))) (.node (some Tryd.f11) (.node (some Tryd.f19) (.node (some Tryd.f35) (.node none .leaf .leaf) .leaf) (.node none (.node none .leaf .leaf) .leaf)) (.node none (.node (some Tryd.f43) (.node none .leaf .leaf) .leaf) (.node none .leaf .leaf)))) (.node (some Tryd.f5) (.node (some Tryd.f9) (.node (some Tryd.f17) (.node (some Tryd.f33) (.node none .leaf .leaf) .leaf) (.node none (.node none .leaf .leaf) .leaf)) (.node (some Tryd.f25) (.node none (.node none .leaf .leaf) .leaf) (.node none .leaf .leaf))) (.node (some Tryd.f13) (.node (some Tryd.f21) (.node none (.node none .leaf .leaf) .leaf) (.node none (.node none .leaf .leaf) .leaf)) (.node (some Tryd.f29) (.node none (.node none .leaf .leaf) .leaf) (.node none .leaf .leaf))))) (.node none (.node none (.node (some Tryd.f8) (.node (some Tryd.f16) (.node (some Tryd.f32) (.node none .leaf .leaf) .leaf) (.node none (.node none .leaf .leaf) .leaf)) (.node (some Tryd.f24) (.node none (.node none .leaf .leaf) .leaf) (.node none .leaf .leaf))) (.node (some Tryd.f12) (.node (some Tryd.f20) (.node (some Tryd.f36) (.node none .leaf .leaf) .leaf) (.node none (.node none .leaf .leaf) .leaf)) (.node none (.node (some Tryd.f44) (.node none .leaf .leaf) .leaf) (.node none .leaf .leaf)))) (.node (some Tryd.f6) (.node (some Tryd.f10) (.node (some Tryd.f18) (.node (some Tryd.f34) (.node none .leaf .leaf) .leaf) (.node none (.node none .leaf .leaf) .leaf)) (.node (some Tryd.f26) (.node (some Tryd.f42) (.node none .leaf .leaf) .leaf) (.node none .leaf .leaf))) (.node (some Tryd.f14) (.node (some Tryd.f22) (.node (some Tryd.f38) (.node none .leaf .leaf) .leaf) (.node none (.node none .leaf .leaf) .leaf)) (.node (some Tryd.f30) (.node none (.node none .leaf .leaf) .leaf) (.node none .leaf .leaf))))))
theorem vF_ok : Tr.Every (FnOk Tryd.prog) vF := (Tr.every_node noFn (Tr.every_node noFn (Tr.every_node (fnOk Tryd.func3 Tryd.call3 (by kernel_rfl)) (Tr.every_node (fnOk Tryd.func7 Tryd.call7 (by kernel_rfl)) (Tr.every_node (fnOk Tryd.func15 Tryd.call15 (by kernel_rfl)) (Tr.every_node (fnOk Tryd.func31 Tryd.call31 (by kernel_rfl)) (Tr.every_node noFn Tr.every_leaf Tr.every_leaf) Tr.every_leaf) (Tr.every_node noFn (Tr.every_node noFn Tr.every_leaf Tr.every_leaf) Tr.every_leaf)) (Tr.every_node (fnOk Tryd.func23 Tryd.call23 (by kernel_rfl)) (Tr.every_node (fnOk Tryd.func39 Tryd.call39 (by kernel_rfl)) (Tr.every_node noFn Tr.every_leaf Tr.every_leaf) Tr.every_leaf) (Tr.every_node noFn (Tr.every_node noFn Tr.every_leaf Tr.every_leaf) Tr.every_leaf))) (Tr.every_node (fnOk Tryd.func11 Tryd.call11 (by kernel_rfl)) (Tr.every_node (fnOk Tryd.func19 Tryd.call19 (by kernel_rfl)) (Tr.every_node (fnOk Tryd.func35 Tryd.call35 (by kernel_rfl)) (Tr.every_node noFn Tr.every_leaf Tr.every_leaf) Tr.every_leaf) (Tr.every_node noFn (Tr.every_node noFn Tr.every_leaf Tr.every_leaf) Tr.every_leaf)) (Tr.every_node noFn (Tr.every_node (fnOk Tryd.func43 Tryd.call43 (by kernel_rfl)) (Tr.every_node noFn Tr.every_leaf Tr.every_leaf) Tr.every_leaf) (Tr.every_node noFn Tr.every_leaf Tr.every_leaf)))) (Tr.every_node (fnOk Tryd.func5 Tryd.call5 (by kernel_rfl)) (Tr.every_node (fnOk Tryd.func9 Tryd.call9 (by kernel_rfl)) (Tr.every_node (fnOk Tryd.func17 Tryd.call17 (by kernel_rfl)) (Tr.every_node (fnOk Tryd.func33 Tryd.call33 (by kernel_rfl)) (Tr.every_node noFn Tr.every_leaf Tr.every_leaf) Tr.every_leaf) (Tr.every_node noFn (Tr.every_node noFn Tr.every_leaf Tr.every_leaf) Tr.every_leaf)) (Tr.every_node (fnOk Tryd.func25 Tryd.call25 (by kernel_rfl)) (Tr.every_node noFn (Tr.every_node noFn Tr.every_leaf Tr.every_leaf) Tr.every_leaf) (Tr.every_node noFn Tr.every_leaf Tr.every_leaf))) (Tr.every_node (fnOk Tryd.func13 Tryd.call13 (by kernel_rfl)) (Tr.every_node (fnOk Tryd.func21 Tryd.call21 (by kernel_rfl)) (Tr.every_node noFn (Tr.every_node noFn Tr.every_leaf Tr.every_leaf) Tr.every_leaf) (Tr.every_node noFn (Tr.every_node noFn Tr.every_leaf Tr.every_leaf) Tr.every_leaf)) (Tr.every_node (fnOk Tryd.func29 Tryd.call29 (by kernel_rfl)) (Tr.every_node noFn (Tr.every_node noFn Tr.every_leaf Tr.every_leaf) Tr.every_leaf) (Tr.every_node noFn Tr.every_leaf Tr.every_leaf))))) (Tr.every_node noFn (Tr.every_node noFn (Tr.every_node (fnOk Tryd.func8 Tryd.call8 (by kernel_rfl)) (Tr.every_node (fnOk Tryd.func16 Tryd.call16 (by kernel_rfl)) (Tr.every_node (fnOk Tryd.func32 Tryd.call32 (by kernel_rfl)) (Tr.every_node noFn Tr.every_leaf Tr.every_leaf) Tr.every_leaf) (Tr.every_node noFn (Tr.every_node noFn Tr.every_leaf Tr.every_leaf) Tr.every_leaf)) (Tr.every_node (fnOk Tryd.func24 Tryd.call24 (by kernel_rfl)) (Tr.every_node noFn (Tr.every_node noFn Tr.every_leaf Tr.every_leaf) Tr.every_leaf) (Tr.every_node noFn Tr.every_leaf Tr.every_leaf))) (Tr.every_node (fnOk Tryd.func12 Tryd.call12 (by kernel_rfl)) (Tr.every_node (fnOk Tryd.func20 Tryd.call20 (by kernel_rfl)) (Tr.every_node (fnOk Tryd.func36 Tryd.call36 (by kernel_rfl)) (Tr.every_node noFn Tr.every_leaf Tr.every_leaf) Tr.every_leaf) (Tr.every_node noFn (Tr.every_node noFn Tr.every_leaf Tr.every_leaf) Tr.every_leaf)) (Tr.every_node noFn (Tr.every_node (fnOk Tryd.func44 Tryd.call44 (by kernel_rfl)) (Tr.every_node noFn Tr.every_leaf Tr.every_leaf) Tr.every_leaf) (Tr.every_node noFn Tr.every_leaf Tr.every_leaf)))) (Tr.every_node (fnOk Tryd.func6 Tryd.call6 (by kernel_rfl)) (Tr.every_node (fnOk Tryd.func10 Tryd.call10 (by kernel_rfl)) (Tr.every_node (fnOk Tryd.func18 Tryd.call18 (by kernel_rfl)) (Tr.every_node (fnOk Tryd.func34 Tryd.call34 (by kernel_rfl)) (Tr.every_node noFn Tr.every_leaf Tr.every_leaf) Tr.every_leaf) (Tr.every_node noFn (Tr.every_node noFn Tr.every_leaf Tr.every_leaf) Tr.every_leaf)) (Tr.every_node (fnOk Tryd.func26 Tryd.call26 (by kernel_rfl)) (Tr.every_node (fnOk Tryd.func42 Tryd.call42 (by kernel_rfl)) (Tr.every_node noFn Tr.every_leaf Tr.every_leaf) Tr.every_leaf) (Tr.every_node noFn Tr.every_leaf Tr.every_leaf))) (Tr.every_node (fnOk Tryd.func14 Tryd.call14 (by kernel_rfl)) (Tr.every_node (fnOk Tryd.func22 Tryd.call22 (by kernel_rfl)) (Tr.every_node (fnOk Tryd.func38 Tryd.call38 (by kernel_rfl)) (Tr.every_node noFn Tr.every_leaf Tr.every_leaf) Tr.every_leaf) (Tr.every_node noFn (Tr.every_node noFn Tr.every_leaf Tr.every_leaf) Tr.every_leaf)) (Tr.every_node (fnOk Tryd.func30 Tryd.call30 (by kernel_rfl)) (Tr.every_node noFn (Tr.every_node noFn Tr.every_leaf Tr.every_leaf) Tr.every_leaf) (Tr.every_node noFn Tr.every_leaf Tr.every_leaf))))))
noncomputable def vP : Tr Prim := (.node none (.node none (.node none (.node none (.node none (.node none (.node none .leaf .leaf) .leaf) (.node none (.node none .leaf .leaf) .leaf)) (.node none (.node none (.node none .leaf .leaf) .leaf) (.node none (.node none .leaf .leaf) .leaf))) (.node none (.node none (.node none (.node none .leaf .leaf) .leaf) (.node none (.node none .leaf .leaf) .leaf)) (.node (some (.lib libValid)) (.node none (.node none .leaf .leaf) .leaf) (.node none .leaf .leaf)))) (.node none (.node none (.node none (.node none (.node none .leaf .leaf) .leaf) (.node none (.node none .leaf .leaf) .leaf)) (.node none (.node none (.node none .leaf .leaf) .leaf) (.node none .leaf .leaf))) (.node none (.node none (.node (some (.builderString 5)) (.node none .leaf .leaf) .leaf) (.node none (.node none .leaf .leaf) .leaf)) (.node none (.node (some (.lib libRunes)) (.node none .leaf .leaf) .leaf) (.node none .leaf .leaf))))) (.node none (.node none (.node none (.node none (.node none (.node none .leaf .leaf) .leaf) (.node (some (.copyCheck [(53, 2, 0), (54, 2, 0), (55, 4, 0), (56, 4, 0)])) (.node none .leaf .leaf) .leaf)) (.node none (.node none (.node none .leaf .leaf) .leaf) (.node none .leaf .leaf))) (.node none (.node none (.node none (.node none .leaf .leaf) .leaf) (.node none (.node none .leaf .leaf) .leaf)) (.node (some (.lib libContains)) (.node none (.node none .leaf .leaf) .leaf) (.node none .leaf .leaf)))) (.node none (.node none (.node none (.node none (.node none .leaf .leaf) .leaf) (.node none (.node none .leaf .leaf) .leaf)) (.node none (.node none (.node none .leaf .leaf) .leaf) (.node none .leaf .leaf))) (.node none (.node none (.node none (.node none .leaf .leaf) .leaf) (.node none (.node none .leaf .leaf) .leaf)) (.node none (.node (some (.lib libRepeat)) (.node none .leaf .leaf) .leaf) (.node none .leaf .leaf))))))
noncomputable def vG : Tr (List AV) := (.node (some [(.int .u8 (240)), (.int .u8 (240)), (.int .u8 (240)), (.int .u8 (240)), (.int .u8 (240)), (.int .u8 (240)), (.int .u8 (240)), (.int .u8 (240)), (.int .u8 (240)), (.int .u8 (240)), (.int .u8 (240)), (.int .u8 (240)), (.int .u8 (240)), (.int .u8 (240)), (.int .u8 (240)), (.int .u8 (240)), (.int .u8 (240)), (.int .u8 (240)), (.int .u8 (240)), (.int .u8 (240)), (.int .u8 (240)), (.int .u8 (240)), (.int .u8 (240)), (.int .u8 (240)), (.int .u8 (240)), (.int .u8 (240)), (.int .u8 (240)), (.int .u8 (240)), (.int .u8 (240)), (.int .u8 (240)), (.int .u8 (240)), (.int .u8 (240)), (.int .u8 (240)), (.int .u8 (240)), (.int .u8 (240)), (.int .u8 (240)), (.int .u8 (240)), (.int .u8 (240)), (.int .u8 (240)), (.int .u8 (240)), (.int .u8 (240)), (.int .u8 (240)), (.int .u8 (240)), (.int .u8 (240)), (.int .u8 (240)), (.int .u8 (240)), (.int .u8 (240)), (.int .u8 (240)), (.int .u8 (240)), (.int .u8 (240)), (.int .u8 (240)), (.int .u8 (240)), (.int .u8 (240)), (.int .u8 (240)), (.int .u8 (240)), (.int .u8 (240)), (.int .u8 (240)), (.int .u8 (240)), (.int .u8 (240)), (.int .u8 (240)), (.int .u8 (240)), (.int .u8 (240)), (.int .u8 (240)), (.int .u8 (240)), (.int .u8 (240)), (.int .u8 (240)), (.int .u8 (240)), (.int .u8 (240)), (.int .u8 (240)), (.int .u8 (240)), (.int .u8 (240)), (.int .u8 (240)), (.int .u8 (240)), (.int .u8 (240)), (.int .u8 (240)), (.int .u8 (240)), (.int .u8 (240)), (.int .u8 (240)), (.int .u8 (240)), (.int .u8 (240)), (.int .u8 (240)), (.int .u8 (240)), (.int .u8 (240)), (.int .u8 (240)), (.int .u8 (240)), (.int .u8 (240)), (.int .u8 (240)), (.int .u8 (240)), (.int .u8 (240)), (.int .u8 (240)), (.int .u8 (240)), (.int .u8 (240)), (.int .u8 (240)), (.int .u8 (240)), (.int .u8 (240)), (.int .u8 (240)), (.int .u8 (240)), (.int .u8 (240)), (.int .u8 (240)), (.int .u8 (240)), (.int .u8 (240)), (.int .u8 (240)), (.int .u8 (240)), (.int .u8 (240)), (.int .u8 (240)), (.int .u8 (240)), (.int .u8 (240)), (.int .u8 (240)), (.int .u8 (240)), (.int .u8 (240)), (.int .u8 (240)), (.int .u8 (240)), (.int .u8 (240)), (.int .u8 (240)), (.int .u8 (240)), (.int .u8 (240)), (.int .u8 (240)), (.int .u8 (240)), (.int .u8 (240)), (.int .u8 (240)), (.int .u8 (240)), (.int .u8 (240)), (.int .u8 (240)), (.int .u8 (240)), (.int .u8 (240)), (.int .u8 (240)), (.int .u8 (240)), (.int .u8 (240)), (.int .u8 (241)), (.int .u8 (241)), (.int .u8 (241)), (.int .u8 (241)), (.int .u8 (241)), (.int .u8 (241)), (.int .u8 (241)), (.int .u8 (241)), (.int .u8 (241)), (.int .u8 (241)), (.int .u8 (241)), (.int .u8 (241)), (.int .u8 (241)), (.int .u8 (241)), (.int .u8 (241)), (.int .u8 (241)), (.int .u8 (241)), (.int .u8 (241)), (.int .u8 (241)), (.int .u8 (241)), (.int .u8 (241)), (.int .u8 (241)), (.int .u8 (241)), (.int .u8 (241)), (.int .u8 (241)), (.int .u8 (241)), (.int .u8 (241)), (.int .u8 (241)), (.int .u8 (241)), (.int .u8 (241)), (.int .u8 (241)), (.int .u8 (241)), (.int .u8 (241)), (.int .u8 (241)), (.int .u8 (241)), (.int .u8 (241)), (.int .u8 (241)), (.int .u8 (241)), (.int .u8 (241)), (.int .u8 (241)), (.int .u8 (241)), (.int .u8 (241)), (.int .u8 (241)), (.int .u8 (241)), (.int .u8 (241)), (.int .u8 (241)), (.int .u8 (241)), (.int .u8 (241)), (.int .u8 (241)), (.int .u8 (241)), (.int .u8 (241)), (.int .u8 (241)), (.int .u8 (241)), (.int .u8 (241)), (.int .u8 (241)), (.int .u8 (241)), (.int .u8 (241)), (.int .u8 (241)), (.int .u8 (241)), (.int .u8 (241)), (.int .u8 (241)), (.int .u8 (241)), (.int .u8 (241)), (.int .u8 (241)), (.int .u8 (241)), (.int .u8 (241)), (.int .u8 (2)), (.int .u8 (2)), (.int .u8 (2)), (.int .u8 (2)), (.int .u8 (2)), (.int .u8 (2)), (.int .u8 (2)), (.int .u8 (2)), (.int .u8 (2)), (.int .u8 (2)), (.int .u8 (2)), (.int .u8 (2)), (.int .u8 (2)), (.int .u8 (2)), (.int .u8 (2)), (.int .u8 (2)), (.int .u8 (2)), (.int .u8 (2)), (.int .u8 (2)), (.int .u8 (2)), (.int .u8 (2)), (.int .u8 (2)), (.int .u8 (2)), (.int .u8 (2)), (.int .u8 (2)), (.int .u8 (2)), (.int .u8 (2)), (.int .u8 (2)), (.int .u8 (2)), (.int .u8 (2)), (.int .u8 (19)), (.int .u8 (3)), (.int .u8 (3)), (.int .u8 (3)), (.int .u8 (3)), (.int .u8 (3)), (.int .u8 (3)), (.int .u8 (3)), (.int .u8 (3)), (.int .u8 (3)), (.int .u8 (3)), (.int .u8 (3)), (.int .u8 (3)), (.int .u8 (35)), (.int .u8 (3)), (.int .u8 (3)), (.int .u8 (52)), (.int .u8 (4)), (.int .u8 (4)), (.int .u8 (4)), (.int .u8 (68)), (.int .u8 (241)), (.int .u8 (241)), (.int .u8 (241)), (.int .u8 (241)), (.int .u8 (241)), (.int .u8 (241)), (.int .u8 (241)), (.int .u8 (241)), (.int .u8 (241)), (.int .u8 (241)), (.int .u8 (241))]) (.node (some [(.int .u8 (128)), (.int .u8 (191)), (.int .u8 (160)), (.int .u8 (191)), (.int .u8 (128)), (.int .u8 (159)), (.int .u8 (144)), (.int .u8 (191)), (.int .u8 (128)), (.int .u8 (143)), (.int .u8 (0)), (.int .u8 (0)), (.int .u8 (0)), (.int .u8 (0)), (.int .u8 (0)), (.int .u8 (0)), (.int .u8 (0)), (.int .u8 (0)), (.int .u8 (0)), (.int .u8 (0)), (.int .u8 (0)), (.int .u8 (0)), (.int .u8 (0)), (.int .u8 (0)), (.int .u8 (0)), (.int .u8 (0)), (.int .u8 (0)), (.int .u8 (0)), (.int .u8 (0)), (.int .u8 (0)), (.int .u8 (0)), (.int .u8 (0))]) .leaf .leaf) (.node none .leaf .leaf))
noncomputable def vI : Tr (List Nat) := (.node none (.node none (.node (some [24]) (.node (some [24, 4000000]) (.node (some [32]) (.node none (.node none .leaf .leaf) .leaf) (.node none (.node none .leaf .leaf) .leaf)) (.node none (.node none (.node none .leaf .leaf) .leaf) (.node none (.node none .leaf .leaf) .leaf))) (.node (some [24]) (.node none (.node (some [59]) (.node none .leaf .leaf) .leaf) (.node none (.node none .leaf .leaf) .leaf)) (.node none (.node none (.node none .leaf .leaf) .leaf) (.node none .leaf .leaf)))) (.node (some [24, 4000000]) (.node none (.node none (.node none (.node none .leaf .leaf) .leaf) (.node none (.node none .leaf .leaf) .leaf)) (.node (some [32]) (.node none (.node none .leaf .leaf) .leaf) (.node none .leaf .leaf))) (.node (some [32]) (.node none (.node none (.node none .leaf .leaf) .leaf) (.node none (.node none .leaf .leaf) .leaf)) (.node none (.node none (.node none .leaf .leaf) .leaf) (.node none .leaf .leaf))))) (.node none (.node none (.node (some [24]) (.node (some [24]) (.node none (.node none .leaf .leaf) .leaf) (.node none (.node none .leaf .leaf) .leaf)) (.node none (.node none (.node none .leaf .leaf) .leaf) (.node none .leaf .leaf))) (.node (some [24]) (.node none (.node none (.node none .leaf .leaf) .leaf) (.node none (.node none .leaf .leaf) .leaf)) (.node none (.node none (.node none .leaf .leaf) .leaf) (.node none .leaf .leaf)))) (.node none (.node (some [32]) (.node none (.node none (.node none .leaf .leaf) .leaf) (.node none (.node none .leaf .leaf) .leaf)) (.node (some [24]) (.node none (.node none .leaf .leaf) .leaf) (.node none .leaf .leaf))) (.node (some [24]) (.node none (.node (some [64]) (.node none .leaf .leaf) .leaf) (.node none (.node none .leaf .leaf) .leaf)) (.node (some [32]) (.node none (.node none .leaf .leaf) .leaf) (.node none .leaf .leaf))))))
noncomputable def vfull : List Nat := []
noncomputable def vlook : List Nat := []
theorem prim27 : OnePrim Tryd.prog vT (fun b => vG.get b) 27 (.lib libValid) := valid_prim (g3 := 0) (g4 := 1) Tryd.call27 (fun s w h hT => Tryd.utf8_ValidString s w h hT) rfl rfl (by kernel_rfl) (by kernel_rfl)
theorem prim28 : OnePrim Tryd.prog vT (fun b => vG.get b) 28 (.lib libContains) := contains_prim Tryd.call28 fun s c w => Tryd.strings_Contains_one s c w
theorem prim37 : OnePrim Tryd.prog vT (fun b => vG.get b) 37 (.builderString 5) := builderString_prim ⟨Tryd.call37, size_of (by kernel_rfl), run_string_nil, run_string⟩
theorem prim45 : OnePrim Tryd.prog vT (fun b => vG.get b) 45 (.lib libRunes) := runes_prim Tryd.call45 fun s w h => Tryd.utf8_RuneCountInString s w h
theorem prim46 : OnePrim Tryd.prog vT (fun b => vG.get b) 46 (.lib libRepeat) := repeat_prim Tryd.call46 fun s c w h1 h2 => Tryd.strings_Repeat s c w h1 h2
theorem prim48 : OnePrim Tryd.prog vT (fun b => vG.get b) 48 (.copyCheck [(53, 2, 0), (54, 2, 0), (55, 4, 0), (56, 4, 0)]) := copyCheck_prim ⟨Tryd.call48, run_used, fun b o w e n h1 h2 h3 h4 h5 => run_fresh b o w e n h1 h2 h3 h4 (lies_of (by kernel_rfl) h5)⟩
theorem vP_ok : Tr.Every (fun f q => OnePrim Tryd.prog vT (fun b => vG.get b) f q) vP := (Tr.every_node noPrim (Tr.every_node noPrim (Tr.every_node noPrim (Tr.every_node noPrim (Tr.every_node noPrim (Tr.every_node noPrim (Tr.every_node noPrim Tr.every_leaf Tr.every_leaf) Tr.every_leaf) (Tr.every_node noPrim (Tr.every_node noPrim Tr.every_leaf Tr.every_leaf) Tr.every_leaf)) (Tr.every_node noPrim (Tr.every_node noPrim (Tr.every_node noPrim Tr.every_leaf Tr.every_leaf) Tr.every_leaf) (Tr.every_node noPrim (Tr.every_node noPrim Tr.every_leaf Tr.every_leaf) Tr.every_leaf))) (Tr.every_node noPrim (Tr.every_node noPrim (Tr.every_node noPrim (Tr.every_node noPrim Tr.every_leaf Tr.every_leaf) Tr.every_leaf) (Tr.every_node noPrim (Tr.every_node noPrim Tr.every_leaf Tr.every_leaf) Tr.every_leaf)) (Tr.every_node (onePrim prim27) (Tr.every_node noPrim (Tr.every_node noPrim Tr.every_leaf Tr.every_leaf) Tr.every_leaf) (Tr.every_node noPrim Tr.every_leaf Tr.every_leaf)))) (Tr.every_node noPrim (Tr.every_node noPrim (Tr.every_node noPrim (Tr.every_node noPrim (Tr.every_node noPrim Tr.every_leaf Tr.every_leaf) Tr.every_leaf) (Tr.every_node noPrim (Tr.every_node noPrim Tr.every_leaf Tr.every_leaf) Tr.every_leaf)) (Tr.every_node noPrim (Tr.every_node noPrim (Tr.every_node noPrim Tr.every_leaf Tr.every_leaf) Tr.every_leaf) (Tr.every_node noPrim Tr.every_leaf Tr.every_leaf))) (Tr.every_node noPrim (Tr.every_node noPrim (Tr.every_node (onePrim prim37) (Tr.every_node noPrim Tr.every_leaf Tr.every_leaf) Tr.every_leaf) (Tr.every_node noPrim (Tr.every_node noPrim Tr.every_leaf Tr.every_leaf) Tr.every_leaf)) (Tr.every_node noPrim (Tr.every_node (onePrim prim45) (Tr.every_node noPrim Tr.every_leaf Tr.every_leaf) Tr.every_leaf) (Tr.every_node noPrim Tr.every_leaf Tr.every_leaf))))) (Tr.every_node noPrim (Tr.every_node noPrim (Tr.every_node noPrim (Tr.every_node noPrim (Tr.every_node noPrim (Tr.every_node noPrim Tr.every_leaf Tr.every_leaf) Tr.every_leaf) (Tr.every_node (onePrim prim48) (Tr.every_node noPrim Tr.every_leaf Tr.every_leaf) Tr.every_leaf)) (Tr.every_node noPrim (Tr.every_node noPrim (Tr.every_node noPrim Tr.every_leaf Tr.every_leaf) Tr.every_leaf) (Tr.every_node noPrim Tr.every_leaf Tr.every_leaf))) (Tr.every_node noPrim (Tr.every_node noPrim (Tr.every_node noPrim (Tr.every_node noPrim Tr.every_leaf Tr.every_leaf) Tr.every_leaf) (Tr.every_node noPrim (Tr.every_node noPrim Tr.every_leaf Tr.every_leaf) Tr.every_leaf)) (Tr.every_node (onePrim prim28) (Tr.every_node noPrim (Tr.every_node noPrim Tr.every_leaf Tr.every_leaf) Tr.every_leaf) (Tr.every_node noPrim Tr.every_leaf Tr.every_leaf)))) (Tr.every_node noPrim (Tr.every_node noPrim (Tr.every_node noPrim (Tr.every_node noPrim (Tr.every_node noPrim Tr.every_leaf Tr.every_leaf) Tr.every_leaf) (Tr.every_node noPrim (Tr.every_node noPrim Tr.every_leaf Tr.every_leaf) Tr.every_leaf)) (Tr.every_node noPrim (Tr.every_node noPrim (Tr.every_node noPrim Tr.every_leaf Tr.every_leaf) Tr.every_leaf) (Tr.every_node noPrim Tr.every_leaf Tr.every_leaf))) (Tr.every_node noPrim (Tr.every_node noPrim (Tr.every_node noPrim (Tr.every_node noPrim Tr.every_leaf Tr.every_leaf) Tr.every_leaf) (Tr.every_node noPrim (Tr.every_node noPrim Tr.every_leaf Tr.every_leaf) Tr.every_leaf)) (Tr.every_node noPrim (Tr.every_node (onePrim prim46) (Tr.every_node noPrim Tr.every_leaf Tr.every_leaf) Tr.every_leaf) (Tr.every_node noPrim Tr.every_leaf Tr.every_leaf))))))
noncomputable def vE : Env where
  T := vT
  F i := vF.get i
  prim i := vP.get i
  full i := vfull.any fun j => i.beq j
  isLook i := vlook.any fun j => i.beq j
  imm f t := match vI.get f with
    | some l => l.any fun j => t.beq j
    | none => false
  G b := vG.get b
  memo _ := []
theorem vE_ok : EnvOk Tryd.prog vE := ⟨vT_ok, fun f fn h => Tr.every_get vF _ vF_ok f fn h, primOk_of fun f q h => Tr.every_get vP _ vP_ok f q h, by kernel_rfl, (fun _ _ h => by cases h), fun _ r _ _ h _ => absurd (show (none : Option (List AV → Option AV)) = some r from h) (by simp)⟩
end Go.Proofs.YteajphhelkdjnaaDoor.Vm
set_option maxRecDepth 1000000
set_option maxHeartbeats 0
namespace Go.Proofs.YteajphhelkdjnaaDoor.Vm
open Go Go.VM Go.Proofs
/-- rostrum/rostrumlaw19.LayoutShows -/
noncomputable def g3 : AV → AV → Option AV := fun x0 x1 => unA x0 fun l1 => unc l1 fun v2 l3 => asI .u8 v2 fun n4 => unc l3 fun v5 l6 => asS v5 fun l7 => unc l6 fun v8 l9 => asI .i64 v8 fun n10 => unc l9 fun v11 l12 =>
 un0 l12 (asI .i64 x1 fun n13 => asOne v11 (fit1 v11 fun v14 => callS (orc vE) 8 [AV.agg [AV.int .u8 n4, AV.str l7, AV.int .i64 n10, v14], AV.int .i64 400] (St.mk 0 0 Tr.leaf) fun v16 st17 _x => asI .i64 v16 fun n19 =>
 ifB (decide (n19 ≥ 400)) (callS (orc vE) 9 [] st17 fun v20 _x _x_1 => asB v20 fun b23 => some (AV.bool b23)) (callS (orc vE) 11 [AV.agg [AV.int .u8 n4, AV.str l7, AV.int .i64 n10, v14]] st17 fun v25 st26 _x => unA v25
 fun l29 => unc l29 fun v30 l31 => asI .u8 v30 fun n32 => unc l31 fun v33 l34 => asS v33 fun l35 => unc l34 fun v36 l37 => asI .i64 v36 fun n38 => unc l37 fun v39 l40 => un0 l40 (callS (orc vE) 10 [AV.agg [AV.int .u8
 n32, AV.str l35, AV.int .i64 n38, v39], AV.int .i64 n13] st26 fun v41 st42 _x => unT v41 fun l44 => nthS l44 0 fun v45 => asS v45 fun l46 => unT v41 fun l47 => nthS l47 1 fun v48 => asI .i64 v48 fun n49 => callS (orc
 vE) 12 [AV.agg [AV.int .u8 n4, AV.str l7, AV.int .i64 n10, v14], AV.int .i64 n13] st42 fun v51 st52 _x => unT v51 fun l54 => nthS l54 0 fun v55 => asS v55 fun l56 => unT v51 fun l57 => nthS l57 1 fun v58 => asI .i64 v58
 fun n59 => callS (orc vE) 11 [AV.agg [AV.int .u8 n4, AV.str l7, AV.int .i64 n10, v14]] st52 fun v61 st62 _x => unA v61 fun l65 => unc l65 fun v66 l67 => asI .u8 v66 fun n68 => unc l67 fun v69 l70 => asS v69 fun l71 =>
 unc l70 fun v72 l73 => asI .i64 v72 fun n74 => unc l73 fun v75 l76 => un0 l76 (callS (orc vE) 13 [AV.agg [AV.int .u8 n68, AV.str l71, AV.int .i64 n74, v75]] st62 fun v77 st78 _x => unT v77 fun l80 => nthS l80 0 fun v81
 => asS v81 fun l82 => unT v77 fun l83 => nthS l83 1 fun v84 => asB v84 fun b85 => callS (orc vE) 14 [AV.agg [AV.int .u8 n4, AV.str l7, AV.int .i64 n10, v14]] st78 fun v87 st88 _x => unT v87 fun l90 => nthS l90 0 fun v91
 => asS v91 fun l92 => unT v87 fun l93 => nthS l93 1 fun v94 => asB v94 fun b95 => bindO (callS (orc vE) 11 [AV.agg [AV.int .u8 n4, AV.str l7, AV.int .i64 n10, v14]] st88 fun v97 st98 x99 => unA v97 fun l101 => unc l101
 fun v102 l103 => asI .u8 v102 fun n104 => unc l103 fun v105 l106 => asS v105 fun l107 => unc l106 fun v108 l109 => asI .i64 v108 fun n110 => unc l109 fun v111 l112 => un0 l112 (callS (orc vE) 15 [AV.agg [AV.int .u8
 n104, AV.str l107, AV.int .i64 n110, v111]] st98 fun v113 st114 x115 => asB v113 fun b116 => chk (apart x115 (Fx.mk [] Did.kept) && (apart x99 (Fx.mk [] Did.kept) && true)) (callS (orc vE) 16 [AV.agg [AV.int .u8 n4,
 AV.str l7, AV.int .i64 n10, v14]] st114 fun v118 st119 _x => asB v118 fun b121 => ifB (b116 == b121) (ifB (l46 == l56) (ifB (n49 == n59) (ifB (l82 == l92) (ifB (b85 == b95) (callS (orc vE) 9 [] st119 fun v122 st123 _x
 => asB v122 fun b125 => some ([AV.bool b125], st123)) (some ([AV.bool false], st119))) (some ([AV.bool false], st119))) (some ([AV.bool false], st119))) (some ([AV.bool false], st119))) (some ([AV.bool false],
 st119))))) fun c126 => unc (Prod.fst c126) fun v127 l128 => asB v127 fun b129 => un0 l128 (some (AV.bool b129)))))))
/-- rostrum/rostrumlaw19.LayoutTexts -/
noncomputable def g5 : AV → AV → AV → Option AV := fun x0 x1 x2 => unA x0 fun l1 => unc l1 fun v2 l3 => asI .u8 v2 fun n4 => unc l3 fun v5 l6 => asS v5 fun l7 => unc l6 fun v8 l9 => asI .i64 v8 fun n10 => unc l9 fun v11
 l12 => un0 l12 (asI .i64 x1 fun n13 => asI .i64 x2 fun n14 => asOne v11 (fit1 v11 fun v15 => bindO (callS (orc vE) 8 [AV.agg [AV.int .u8 n4, AV.str l7, AV.int .i64 n10, v15], AV.int .i64 400] (St.mk 0 0 Tr.leaf) fun v17
 st18 _x => asI .i64 v17 fun n20 => ifB (decide (n20 ≥ 400)) (some ([AV.bool true], st18)) (callS (orc vE) 9 [] st18 fun v21 st22 _x => asB v21 fun b24 => some ([AV.bool !b24], st22))) fun c25 => unc (Prod.fst c25) fun
 v26 l27 => asB v26 fun b28 => un0 l27 (ifB b28 (callS (orc vE) 9 [] (Prod.snd c25) fun v29 _x _x_1 => asB v29 fun b32 => some (AV.bool b32)) (letSt (St.add (Prod.snd c25) Obj.egg) fun st33 => letSt (St.add st33 Obj.egg)
 fun st34 => callS (orc vE) 11 [AV.agg [AV.int .u8 n4, AV.str l7, AV.int .i64 n10, v15]] st34 fun v36 st37 x38 => unA v36 fun l40 => unc l40 fun v41 l42 => asI .u8 v41 fun n43 => unc l42 fun v44 l45 => asS v44 fun l46 =>
 unc l45 fun v47 l48 => asI .i64 v47 fun n49 => unc l48 fun v50 l51 => un0 l51 (chk (apart x38 (Fx.mk [] Did.kept) && true) (callS (orc vE) 11 [AV.agg [AV.int .u8 n4, AV.str l7, AV.int .i64 n10, v15]] st37 fun v53 st54
 x55 => unA v53 fun l57 => unc l57 fun v58 l59 => asI .u8 v58 fun n60 => unc l59 fun v61 l62 => asS v61 fun l63 => unc l62 fun v64 l65 => asI .i64 v64 fun n66 => unc l65 fun v67 l68 => un0 l68 (hatchS 32 [AV.int .u8 0,
 AV.str [], AV.int .i64 0, AV.nils] (St.h (Prod.snd c25)) st54 fun v69 st70 x71 => chk (apart x55 x71 && (apart (Fx.mk [] Did.kept) x71 && (apart x38 x71 && (apart (Fx.mk [] Did.kept) x71 && true)))) (hatchS 32 [AV.int
 .u8 0, AV.str [], AV.int .i64 0, AV.nils] ((St.h (Prod.snd c25)) + 1) st70 fun v72 st73 x74 => chk (apart x71 x74 && (apart x55 x74 && (apart (Fx.mk [] Did.kept) x74 && (apart x38 x74 && (apart (Fx.mk [] Did.kept) x74
 && true))))) (asOne v50 (storeS (orc vE) 4 v69 (AV.agg [AV.int .u8 n43, AV.str l46, AV.int .i64 n49, v50]) [AV.int .u8 n43, AV.str l46, AV.int .i64 n49, v50] st73 fun _x st76 _x_1 => asOne v67 (storeS (orc vE) 4 v72
 (AV.agg [AV.int .u8 n60, AV.str l63, AV.int .i64 n66, v67]) [AV.int .u8 n60, AV.str l63, AV.int .i64 n66, v67] st76 fun _x st79 _x_2 => loadS 4 true v69 st79 fun v81 _x => unA v81 fun l84 => unc l84 fun v85 l86 => asI
 .u8 v85 fun n87 => unc l86 fun v88 l89 => asS v88 fun l90 => unc l89 fun v91 l92 => asI .i64 v91 fun n93 => unc l92 fun v94 l95 => un0 l95 (letV (IntKind.wrap .u64 n13) fun n96 => letV (Int.tmod n96 200) fun n97 => letV
 (IntKind.wrap .i64 n97) fun n98 => letV (IntKind.wrap .i64 (1 + n98)) fun n99 => callS (orc vE) 10 [AV.agg [AV.int .u8 n87, AV.str l90, AV.int .i64 n93, v94], AV.int .i64 n99] st79 fun v100 st101 _x => unT v100 fun l103
 => nthS l103 0 fun v104 => asS v104 fun l105 => unT v100 fun l106 => nthS l106 1 fun v107 => asI .i64 v107 fun n108 => loadS 4 true v72 st101 fun v109 _x => unA v109 fun l112 => unc l112 fun v113 l114 => asI .u8 v113
 fun n115 => unc l114 fun v116 l117 => asS v116 fun l118 => unc l117 fun v119 l120 => asI .i64 v119 fun n121 => unc l120 fun v122 l123 => un0 l123 (letV (IntKind.wrap .u64 n14) fun n124 => letV (Int.tmod n124 200) fun
 n125 => letV (IntKind.wrap .i64 n125) fun n126 => letV (IntKind.wrap .i64 (1 + n126)) fun n127 => callS (orc vE) 10 [AV.agg [AV.int .u8 n115, AV.str l118, AV.int .i64 n121, v122], AV.int .i64 n127] st101 fun v128 st129
 _x => unT v128 fun l131 => nthS l131 0 fun v132 => asS v132 fun l133 => unT v128 fun l134 => nthS l134 1 fun v135 => asI .i64 v135 fun n136 => bindO (ifB (n108 == n136) (callS (orc vE) 21 [AV.str l105] st129 fun v137
 st138 _x => asS v137 fun l140 => callS (orc vE) 21 [AV.str l133] st138 fun v141 st142 _x => asS v141 fun l144 => some ([AV.bool (l140 == l144)], st142)) (some ([AV.bool false], st129))) fun c145 => unc (Prod.fst c145)
 fun v146 l147 => asB v146 fun b148 => un0 l147 (some (AV.bool b148)))))))))))))))
/-- rostrum/rostrumlaw19.parts -/
noncomputable def g8_L1 (n13 : Int) (v14 : AV) : Car → Option (Car ⊕ Nat × Car) := fun c17 => unc (Prod.fst c17) fun v18 l19 => asI .i64 v18 fun n20 => unc l19 fun v21 l22 => asI .i64 v21 fun n23 => un0 l22 (bindO (lenS
 v14 fun k24 => ifB (decide (n23 < (↑k24 : Int))) (some ([AV.bool (decide (n20 < n13))], Prod.snd c17)) (some ([AV.bool false], Prod.snd c17))) fun c25 => unc (Prod.fst c25) fun v26 l27 => asB v26 fun b28 => un0 l27 (ifB
 b28 (idxA 4 v14 n23 (Prod.snd c25) fun v29 _x => loadS 4 true v29 (Prod.snd c25) fun v31 _x => unA v31 fun l34 => unc l34 fun v35 l36 => asI .u8 v35 fun n37 => unc l36 fun v38 l39 => asS v38 fun l40 => unc l39 fun v41
 l42 => asI .i64 v41 fun n43 => unc l42 fun v44 l45 => un0 l45 (letV (IntKind.wrap .i64 (n13 - n20)) fun n46 => callS (orc vE) 8 [AV.agg [AV.int .u8 n37, AV.str l40, AV.int .i64 n43, v44], AV.int .i64 n46] (Prod.snd c25)
 fun v47 st48 _x => asI .i64 v47 fun n50 => letV (IntKind.wrap .i64 (n20 + n50)) fun n51 => letV (IntKind.wrap .i64 (n23 + 1)) fun n52 => some (Sum.inl ([AV.int .i64 n51, AV.int .i64 n52], st48)))) (some (Sum.inr (0,
 [AV.int .i64 n20], Prod.snd c25)))))
noncomputable def g8 : AV → AV → Option AV := fun x0 x1 => unA x0 fun l1 => unc l1 fun v2 l3 => asI .u8 v2 fun _x => unc l3 fun v5 l6 => asS v5 fun l7 => unc l6 fun v8 l9 => asI .i64 v8 fun _x => unc l9 fun v11 l12 =>
 un0 l12 (asI .i64 x1 fun n13 => asOne v11 (fit1 v11 fun v14 => letV (IntKind.wrap .i64 (Int.tdiv (↑(List.length l7) : Int) 20)) fun n15 => letV (IntKind.wrap .i64 (1 + n15)) fun n16 => bindO (loopO (g8_L1 n13 v14)
 ([AV.int .i64 n16, AV.int .i64 0], St.mk 0 0 Tr.leaf)) fun c53 => unc (Prod.fst (Prod.snd c53)) fun v54 l55 => asI .i64 v54 fun n56 => un0 l55 (some (AV.int .i64 n56))))
theorem g8_eq (x0 x1 : AV) : bareS vE 8 [x0, x1] = g8 x0 x1 := by kernel_rfl
/-- rostrum/layout.Show -/
noncomputable def g10 : AV → AV → Option AV := fun x0 x1 => unA x0 fun l1 => unc l1 fun v2 l3 => asI .u8 v2 fun n4 => unc l3 fun v5 l6 => asS v5 fun l7 => unc l6 fun v8 l9 => asI .i64 v8 fun n10 => unc l9 fun v11 l12 =>
 un0 l12 (asI .i64 x1 fun n13 => asOne v11 (fit1 v11 fun v14 => bindO (ifB (decide (n13 < 1)) (some ([AV.bool true], St.mk 0 0 Tr.leaf)) (some ([AV.bool (decide (n13 > 200))], St.mk 0 0 Tr.leaf))) fun c15 => unc
 (Prod.fst c15) fun v16 l17 => asB v16 fun b18 => un0 l17 (ifB b18 (some (AV.tup [AV.str [], AV.int .i64 1])) (callS (orc vE) 15 [AV.agg [AV.int .u8 n4, AV.str l7, AV.int .i64 n10, v14]] (Prod.snd c15) fun v20 st21 _x =>
 asB v20 fun b23 => ifB (!b23) (some (AV.tup [AV.str [], AV.int .i64 4])) (letSt (St.add st21 (VM.Obj.cells 56 [AV.nilp, AV.nils, AV.int .i64 0, AV.int .i64 n13])) fun st25 => asOne v14 (asOne v14 (fit1 v14 fun v28 =>
 callS (orc vE) 23 [AV.mp (St.h st21) 0, AV.sl 6 [AV.agg [AV.int .u8 n4, AV.str l7, AV.int .i64 n10, v28, AV.int .i64 0, AV.bool false]] Perm.shut] st25 fun v29 _x _x_1 => asS v29 fun l32 => some (AV.tup [AV.str l32,
 AV.int .i64 0]))))))))
theorem g10_eq (x0 x1 : AV) : bareS vE 10 [x0, x1] = g10 x0 x1 := by kernel_rfl
/-- rostrum/rostrumlaw19.given -/
noncomputable def g11_L1 (v13 : AV) : Car → Option (Car ⊕ Nat × Car) := fun c15 => unc (Prod.fst c15) fun v16 l17 => asI .i64 v16 fun n18 => un0 l17 (lenS v13 fun k19 => ifB (decide (n18 < (↑k19 : Int))) (loadS 1 false
 (AV.mp 1 3) (Prod.snd c15) fun v20 l21 => idxA 4 v13 n18 (Prod.snd c15) fun v22 _x => loadS 4 true v22 (Prod.snd c15) fun v24 _x => unA v24 fun l27 => unc l27 fun v28 l29 => asI .u8 v28 fun n30 => unc l29 fun v31 l32 =>
 asS v31 fun l33 => unc l32 fun v34 l35 => asI .i64 v34 fun n36 => unc l35 fun v37 l38 => un0 l38 (callS (orc vE) 11 [AV.agg [AV.int .u8 n30, AV.str l33, AV.int .i64 n36, v37]] (Prod.snd c15) fun v39 st40 x41 => unA v39
 fun l43 => unc l43 fun v44 l45 => asI .u8 v44 fun n46 => unc l45 fun v47 l48 => asS v47 fun l49 => unc l48 fun v50 l51 => asI .i64 v50 fun n52 => unc l51 fun v53 l54 => un0 l54 (chk (apart (Fx.mk l21 Did.kept) x41 &&
 (apart (Fx.mk [] Did.kept) x41 && true)) (asOne v53 (asOne v53 (fit1 v53 fun v55 => asOne v55 (fit1 v55 fun v56 => appS 4 56 32 v20 [AV.agg [AV.int .u8 n46, AV.str l49, AV.int .i64 n52, v56]] st40 fun v57 st58 _x =>
 asOne v57 (asOne v57 (storeS (orc vE) 1 (AV.mp 1 3) v57 [v57] st58 fun _x st61 _x_1 => letV (IntKind.wrap .i64 (n18 + 1)) fun n63 => some (Sum.inl ([AV.int .i64 n63], st61))))))))))) (some (Sum.inr (0, [], Prod.snd
 c15))))
noncomputable def g11 : AV → Option AV := fun x0 => unA x0 fun l1 => unc l1 fun v2 l3 => asI .u8 v2 fun n4 => unc l3 fun v5 l6 => asS v5 fun l7 => unc l6 fun v8 l9 => asI .i64 v8 fun n10 => unc l9 fun v11 l12 => un0 l12
 (asOne v11 (fit1 v11 fun v13 => bindO (loopO (g11_L1 v13) ([AV.int .i64 0], St.mk 2 0 (Tr.node (some (VM.Obj.cells 32 [AV.int .u8 0, AV.str [], AV.int .i64 0, AV.nils])) (Tr.node (some (VM.Obj.cells 32 [AV.int .u8 n4,
 AV.str l7, AV.int .i64 n10, AV.nils])) Tr.leaf Tr.leaf) Tr.leaf))) fun c64 => un0 (Prod.fst (Prod.snd c64)) (loadS 4 true (AV.mp 1 0) (Prod.snd (Prod.snd c64)) fun v65 _x => unA v65 fun l68 => unc l68 fun v69 l70 => asI
 .u8 v69 fun n71 => unc l70 fun v72 l73 => asS v72 fun l74 => unc l73 fun v75 l76 => asI .i64 v75 fun n77 => unc l76 fun v78 l79 => un0 l79 (asOne v78 (storeS (orc vE) 4 (AV.mp 0 0) (AV.agg [AV.int .u8 n71, AV.str l74,
 AV.int .i64 n77, v78]) [AV.int .u8 n71, AV.str l74, AV.int .i64 n77, v78] (Prod.snd (Prod.snd c64)) fun _x st81 _x_1 => loadS 4 true (AV.mp 0 0) st81 fun v83 _x => unA v83 fun l86 => unc l86 fun v87 l88 => asI .u8 v87
 fun n89 => unc l88 fun v90 l91 => asS v90 fun l92 => unc l91 fun v93 l94 => asI .i64 v93 fun n95 => unc l94 fun v96 l97 => un0 l97 (frzS st81 0 (AV.agg [AV.int .u8 n89, AV.str l92, AV.int .i64 n95, v96]) fun v98 => some
 v98))))))
theorem g11_eq (x0 : AV) : bareS vE 11 [x0] = g11 x0 := by kernel_rfl
/-- rostrum/layout.May -/
noncomputable def g15 : AV → Option AV := fun x0 => unA x0 fun l1 => unc l1 fun v2 l3 => asI .u8 v2 fun n4 => unc l3 fun v5 l6 => asS v5 fun l7 => unc l6 fun v8 l9 => asI .i64 v8 fun n10 => unc l9 fun v11 l12 => un0 l12
 (asOne v11 (fit1 v11 fun v13 => bindO (ifB (n4 == 1) (bindO (ifB (n10 == 0) (lenS v13 fun k14 => ifB ((↑k14 : Int) == 0) (planS (orc vE) (primP (Prim.lib libValid) [AV.str l7]) (St.mk 0 0 Tr.leaf) fun v15 st16 _x => asB
 v15 fun b18 => ifB b18 (planS (orc vE) (primP (Prim.lib libContains) [AV.str l7, AV.str [10]]) st16 fun v19 st20 _x => asB v19 fun b22 => ifB (!b22) (planS (orc vE) (primP (Prim.lib libContains) [AV.str l7, AV.str
 [13]]) st20 fun v23 st24 _x => asB v23 fun b26 => some ([AV.bool !b26], st24)) (some ([AV.bool false], st20))) (some ([AV.bool false], st16))) (some ([AV.bool false], St.mk 0 0 Tr.leaf))) (some ([AV.bool false], St.mk 0
 0 Tr.leaf))) fun c27 => unc (Prod.fst c27) fun v28 l29 => asB v28 fun b30 => un0 l29 (some ([AV.bool b30], Prod.snd c27))) (bindO (ifB (n4 == 2) (some ([AV.bool (n4 == 2)], St.mk 0 0 Tr.leaf)) (bindO (ifB (n4 == 3)
 (some ([AV.bool (n4 == 3)], St.mk 0 0 Tr.leaf)) (some ([AV.bool (n4 == 4)], St.mk 0 0 Tr.leaf))) fun c31 => unc (Prod.fst c31) fun v32 l33 => asB v32 fun b34 => un0 l33 (some ([AV.bool b34], Prod.snd c31)))) fun c35 =>
 unc (Prod.fst c35) fun v36 l37 => asB v36 fun b38 => un0 l37 (bindO (ifB b38 (bindO (ifB (n10 == 0) (lenS v13 fun k39 => ifB ((↑k39 : Int) == 0) (some ([AV.bool (l7 == [])], Prod.snd c35)) (some ([AV.bool false],
 Prod.snd c35))) (some ([AV.bool false], Prod.snd c35))) fun c40 => unc (Prod.fst c40) fun v41 l42 => asB v41 fun b43 => un0 l42 (some ([AV.bool b43], Prod.snd c40))) (bindO (ifB (n4 == 5) (bindO (ifB (decide (n10 ≥ 0))
 (ifB (decide (n10 ≤ 200)) (some ([AV.bool (l7 == [])], Prod.snd c35)) (some ([AV.bool false], Prod.snd c35))) (some ([AV.bool false], Prod.snd c35))) fun c44 => unc (Prod.fst c44) fun v45 l46 => asB v45 fun b47 => un0
 l46 (some ([AV.bool b47], Prod.snd c44))) (bindO (ifB (n4 == 6) (some ([AV.bool (n4 == 6)], Prod.snd c35)) (some ([AV.bool (n4 == 7)], Prod.snd c35))) fun c48 => unc (Prod.fst c48) fun v49 l50 => asB v49 fun b51 => un0
 l50 (bindO (ifB b51 (bindO (ifB (n10 == 0) (some ([AV.bool (l7 == [])], Prod.snd c48)) (some ([AV.bool false], Prod.snd c48))) fun c52 => unc (Prod.fst c52) fun v53 l54 => asB v53 fun b55 => un0 l54 (some ([AV.bool
 b55], Prod.snd c52))) (some ([AV.bool false], Prod.snd c48))) fun c56 => unc (Prod.fst c56) fun v57 l58 => asB v57 fun b59 => un0 l58 (some ([AV.bool b59], Prod.snd c56))))) fun c60 => unc (Prod.fst c60) fun v61 l62 =>
 asB v61 fun b63 => un0 l62 (some ([AV.bool b63], Prod.snd c60)))) fun c64 => unc (Prod.fst c64) fun v65 l66 => asB v65 fun b67 => un0 l66 (some ([AV.bool b67], Prod.snd c64))))) fun c68 => unc (Prod.fst c68) fun v69 l70
 => asB v69 fun b71 => un0 l70 (bindO (ifB b71 (callS (orc vE) 29 [v13, AV.fn (Fn.func 30) [] []] (Prod.snd c68) fun v72 st73 _x => asB v72 fun b75 => some ([AV.bool !b75], st73)) (some ([AV.bool false], Prod.snd c68)))
 fun c76 => unc (Prod.fst c76) fun v77 l78 => asB v77 fun b79 => un0 l78 (some (AV.bool b79)))))
theorem g15_eq (x0 : AV) : bareS vE 15 [x0] = g15 x0 := by kernel_rfl
/-- rostrum/rostrumlaw19.kind -/
noncomputable def g19 : AV → Option AV := fun x0 => asI .u8 x0 fun n0 => some (AV.agg [AV.int .u8 n0, AV.str [], AV.int .i64 0, AV.nils])
theorem g19_eq (x0 : AV) : bareS vE 19 [x0] = g19 x0 := by kernel_rfl
/-- rostrum/rostrumlaw19.row -/
noncomputable def g20 : AV → Option AV := fun x0 => asOne x0 (asOne x0 (frzS (St.mk 1 0 (Tr.node (some (VM.Obj.cells 32 [AV.int .u8 7, AV.str [], AV.int .i64 0, x0])) Tr.leaf Tr.leaf)) 0 (AV.agg [AV.int .u8 7, AV.str
 [], AV.int .i64 0, x0]) fun v2 => some v2))
theorem g20_eq (x0 : AV) : bareS vE 20 [x0] = g20 x0 := by kernel_rfl
/-- (*rostrum/layout.writer).lay -/
noncomputable def w23_L1 (x0 : AV) : Car → Option (Car ⊕ Nat × Car) := fun c0 => unc (Prod.fst c0) fun v1 l2 => un0 l2 (lenS v1 fun k3 => ifB (decide ((↑k3 : Int) > 0)) (letSt (St.add (Prod.snd c0) (VM.Obj.cells 59
 [AV.int .u8 0, AV.str [], AV.int .i64 0, AV.nils, AV.int .i64 0, AV.bool false])) fun st4 => callS (orc vE) 34 [v1] st4 fun v5 st6 _x => unT v5 fun l8 => nthS l8 0 fun v9 => unA v9 fun l11 => unc l11 fun v12 l13 => asI
 .u8 v12 fun n14 => unc l13 fun v15 l16 => asS v15 fun l17 => unc l16 fun v18 l19 => asI .i64 v18 fun n20 => unc l19 fun v21 l22 => unc l22 fun v23 l24 => asI .i64 v23 fun n25 => unc l24 fun v26 l27 => asB v26 fun b28 =>
 un0 l27 (unT v5 fun l29 => nthS l29 1 fun v30 => asOne v21 (storeS (orc vE) 6 (AV.mp (St.h (Prod.snd c0)) 0) (AV.agg [AV.int .u8 n14, AV.str l17, AV.int .i64 n20, v21, AV.int .i64 n25, AV.bool b28]) [AV.int .u8 n14,
 AV.str l17, AV.int .i64 n20, v21, AV.int .i64 n25, AV.bool b28] st6 fun _x st32 _x_1 => loadS 1 false (AV.mp (St.h (Prod.snd c0)) 0) st32 fun v34 _x => asI .u8 v34 fun n36 => bindO (ifB (n36 == 1) (loadS 1 false (AV.mp
 (St.h (Prod.snd c0)) 1) st32 fun v37 _x => asS v37 fun l39 => callS (orc vE) 32 [x0, AV.str l39] st32 fun _x st41 _x_2 => some ([v30], st41)) (bindO (ifB (n36 == 2) (some ([AV.bool (n36 == 2)], st32)) (bindO (ifB (n36
 == 3) (some ([AV.bool (n36 == 3)], st32)) (some ([AV.bool (n36 == 4)], st32))) fun c43 => unc (Prod.fst c43) fun v44 l45 => asB v44 fun b46 => un0 l45 (some ([AV.bool b46], Prod.snd c43)))) fun c47 => unc (Prod.fst c47)
 fun v48 l49 => asB v48 fun b50 => un0 l49 (bindO (ifB b50 (bindO (loadS 1 false (AV.mp (St.h (Prod.snd c0)) 5) (Prod.snd c47) fun v51 _x => asB v51 fun b53 => ifB (!b53) (some ([AV.bool true], Prod.snd c47)) (loadS 1
 false (AV.mp (St.h (Prod.snd c0)) 0) (Prod.snd c47) fun v54 _x => asI .u8 v54 fun n56 => some ([AV.bool (n56 == 4)], Prod.snd c47))) fun c57 => unc (Prod.fst c57) fun v58 l59 => asB v58 fun b60 => un0 l59 (bindO (ifB
 b60 (loadS 1 false (AV.mp (St.h (Prod.snd c0)) 4) (Prod.snd c57) fun v61 _x => asI .i64 v61 fun n63 => callS (orc vE) 33 [x0, AV.int .i64 n63] (Prod.snd c57) fun _x st65 _x_2 => some ([], st65)) (loadS 1 false (AV.mp
 (St.h (Prod.snd c0)) 0) (Prod.snd c57) fun v67 _x => asI .u8 v67 fun n69 => bindO (ifB (n69 == 2) (callS (orc vE) 32 [x0, AV.str [32]] (Prod.snd c57) fun _x st71 _x_2 => some ([], st71)) (some ([], Prod.snd c57))) fun
 c73 => un0 (Prod.fst c73) (some ([], Prod.snd c73)))) fun c74 => un0 (Prod.fst c74) (some ([v30], Prod.snd c74)))) (bindO (ifB (n36 == 6) (loadS 6 true (AV.mp (St.h (Prod.snd c0)) 0) (Prod.snd c47) fun v75 _x => unA v75
 fun l78 => unc l78 fun v79 l80 => asI .u8 v79 fun n81 => unc l80 fun v82 l83 => asS v82 fun l84 => unc l83 fun v85 l86 => asI .i64 v85 fun n87 => unc l86 fun v88 l89 => unc l89 fun v90 l91 => asI .i64 v90 fun n92 => unc
 l91 fun v93 l94 => asB v93 fun b95 => un0 l94 (loadS 1 false (AV.mp (St.h (Prod.snd c0)) 4) (Prod.snd c47) fun v96 _x => asI .i64 v96 fun n98 => callS (orc vE) 35 [v30, AV.agg [AV.int .u8 n81, AV.str l84, AV.int .i64
 n87, v88, AV.int .i64 n92, AV.bool b95], AV.int .i64 n98, AV.bool true] (Prod.snd c47) fun v99 st100 _x => bindO (loadS 1 false (AV.mp (St.h (Prod.snd c0)) 5) st100 fun v102 _x => asB v102 fun b104 => ifB b104 (some
 ([AV.bool true], st100)) (loadS 4 true (AV.mp (St.h (Prod.snd c0)) 0) st100 fun v105 _x => unA v105 fun l108 => unc l108 fun v109 l110 => asI .u8 v109 fun n111 => unc l110 fun v112 l113 => asS v112 fun l114 => unc l113
 fun v115 l116 => asI .i64 v115 fun n117 => unc l116 fun v118 l119 => un0 l119 (callS (orc vE) 25 [AV.agg [AV.int .u8 n111, AV.str l114, AV.int .i64 n117, v118]] st100 fun v120 st121 _x => asB v120 fun b123 => ifB
 (!b123) (callS (orc vE) 36 [x0, v99] st121 fun v124 st125 _x => asB v124 fun b127 => some ([AV.bool b127], st125)) (some ([AV.bool false], st121))))) fun c128 => unc (Prod.fst c128) fun v129 l130 => asB v129 fun b131 =>
 un0 l130 (bindO (ifB b131 (some ([v99], Prod.snd c128)) (loadS 6 true (AV.mp (St.h (Prod.snd c0)) 0) (Prod.snd c128) fun v132 _x => unA v132 fun l135 => unc l135 fun v136 l137 => asI .u8 v136 fun n138 => unc l137 fun
 v139 l140 => asS v139 fun l141 => unc l140 fun v142 l143 => asI .i64 v142 fun n144 => unc l143 fun v145 l146 => unc l146 fun v147 l148 => asI .i64 v147 fun n149 => unc l148 fun v150 l151 => asB v150 fun b152 => un0 l151
 (loadS 1 false (AV.mp (St.h (Prod.snd c0)) 4) (Prod.snd c128) fun v153 _x => asI .i64 v153 fun n155 => callS (orc vE) 35 [v30, AV.agg [AV.int .u8 n138, AV.str l141, AV.int .i64 n144, v145, AV.int .i64 n149, AV.bool
 b152], AV.int .i64 n155, AV.bool false] (Prod.snd c128) fun v156 st157 _x => some ([v156], st157)))) fun c159 => unc (Prod.fst c159) fun v160 l161 => un0 l161 (some ([v160], Prod.snd c159))))) (loadS 6 true (AV.mp (St.h
 (Prod.snd c0)) 0) (Prod.snd c47) fun v162 _x => unA v162 fun l165 => unc l165 fun v166 l167 => asI .u8 v166 fun n168 => unc l167 fun v169 l170 => asS v169 fun l171 => unc l170 fun v172 l173 => asI .i64 v172 fun n174 =>
 unc l173 fun v175 l176 => unc l176 fun v177 l178 => asI .i64 v177 fun n179 => unc l178 fun v180 l181 => asB v180 fun b182 => un0 l181 (loadS 1 false (AV.mp (St.h (Prod.snd c0)) 4) (Prod.snd c47) fun v183 _x => asI .i64
 v183 fun n185 => loadS 1 false (AV.mp (St.h (Prod.snd c0)) 2) (Prod.snd c47) fun v186 _x => asI .i64 v186 fun n188 => letV (IntKind.wrap .i64 (n185 + n188)) fun n189 => loadS 1 false (AV.mp (St.h (Prod.snd c0)) 5)
 (Prod.snd c47) fun v190 _x => asB v190 fun b192 => callS (orc vE) 35 [v30, AV.agg [AV.int .u8 n168, AV.str l171, AV.int .i64 n174, v175, AV.int .i64 n179, AV.bool b182], AV.int .i64 n189, AV.bool b192] (Prod.snd c47)
 fun v193 st194 _x => some ([v193], st194)))) fun c196 => unc (Prod.fst c196) fun v197 l198 => un0 l198 (some ([v197], Prod.snd c196)))) fun c199 => unc (Prod.fst c199) fun v200 l201 => un0 l201 (some ([v200], Prod.snd
 c199))))) fun c202 => unc (Prod.fst c202) fun v203 l204 => un0 l204 (some (Sum.inl ([v203], Prod.snd c202)))))) (some (Sum.inr (0, [], Prod.snd c0))))
noncomputable def w23 : AV → AV → St → Option (AV × St) := fun x0 x1 st => bindO (loopO (w23_L1 x0) ([x1], st)) fun c205 => un0 (Prod.fst (Prod.snd c205)) (chk (notNil x0) (fldA 0 x0 fun v206 => planS (orc vE) (primP
 (Prim.builderString 5) [v206]) (Prod.snd (Prod.snd c205)) fun v207 st208 _x => asS v207 fun l210 => some (AV.str l210, st208)))
theorem w23_eq (x0 x1 : AV) (st : St) : wideS vE 23 [x0, x1] st = w23 x0 x1 st := by kernel_rfl
/-- rostrum/layout.hard -/
noncomputable def g25 : AV → Option AV := fun x0 => unA x0 fun l1 => unc l1 fun v2 l3 => asI .u8 v2 fun n4 => unc l3 fun v5 l6 => asS v5 fun _x => unc l6 fun v8 l9 => asI .i64 v8 fun _x => unc l9 fun v11 l12 => un0 l12
 (asOne v11 (fit1 v11 fun v13 => bindO (ifB (n4 == 4) (some ([AV.bool true], St.mk 0 0 Tr.leaf)) (callS (orc vE) 29 [v13, AV.fn (Fn.func 25) [] []] (St.mk 0 0 Tr.leaf) fun v14 st15 _x => asB v14 fun b17 => some ([AV.bool
 b17], st15))) fun c18 => unc (Prod.fst c18) fun v19 l20 => asB v19 fun b21 => un0 l20 (some (AV.bool b21))))
theorem g25_eq (x0 : AV) : bareS vE 25 [x0] = g25 x0 := by kernel_rfl
/-- slices.ContainsFunc[[]rostrum/layout.Doc,rostrum/layout.Doc] -/
noncomputable def g29 : AV → AV → Option AV := fun x0 x1 => callS (orc vE) 42 [x0, x1] (St.mk 0 0 Tr.leaf) fun v0 _x _x_1 => asI .i64 v0 fun n3 => some (AV.bool (decide (n3 ≥ 0)))
theorem g29_eq (x0 x1 : AV) : bareS vE 29 [x0, x1] = g29 x0 x1 := by kernel_rfl
/-- rostrum/layout.May$1 -/
noncomputable def g30 : AV → Option AV := fun x0 => unA x0 fun l1 => unc l1 fun v2 l3 => asI .u8 v2 fun n4 => unc l3 fun v5 l6 => asS v5 fun l7 => unc l6 fun v8 l9 => asI .i64 v8 fun n10 => unc l9 fun v11 l12 => un0 l12
 (asOne v11 (fit1 v11 fun v13 => callS (orc vE) 15 [AV.agg [AV.int .u8 n4, AV.str l7, AV.int .i64 n10, v13]] (St.mk 0 0 Tr.leaf) fun v15 _x _x_1 => asB v15 fun b18 => some (AV.bool !b18)))
theorem g30_eq (x0 : AV) : bareS vE 30 [x0] = g30 x0 := by kernel_rfl
/-- (*rostrum/layout.writer).text -/
noncomputable def w32 : AV → AV → St → Option (AV × St) := fun x0 x1 st => asS x1 fun l0 => chk (notNil x0) (fldA 0 x0 fun v1 => callS (orc vE) 44 [v1, AV.str l0] st fun _x st3 _x_1 => chk (notNil x0) (fldA 2 x0 fun v5
 => loadS 1 false v5 st3 fun v6 l7 => asI .i64 v6 fun n8 => planS (orc vE) (primP (Prim.lib libRunes) [AV.str l0]) st3 fun v9 st10 x11 => asI .i64 v9 fun n12 => chk (apart (Fx.mk l7 Did.kept) x11 && (apart (Fx.mk []
 Did.kept) x11 && (apart (Fx.mk [] Did.kept) x11 && (apart (Fx.mk [] Did.kept) x11 && true)))) (letV (IntKind.wrap .i64 (n8 + n12)) fun n13 => chk (notNil x0) (fldA 2 x0 fun v14 => storeS (orc vE) 1 v14 (AV.int .i64 n13)
 [AV.int .i64 n13] st10 fun _x st16 _x_2 => some (AV.tup [], st16)))))
theorem w32_eq (x0 x1 : AV) (st : St) : wideS vE 32 [x0, x1] st = w32 x0 x1 st := by kernel_rfl
/-- (*rostrum/layout.writer).end -/
noncomputable def w33 : AV → AV → St → Option (AV × St) := fun x0 x1 st => asI .i64 x1 fun n0 => chk (notNil x0) (fldA 0 x0 fun v1 => planS (orc vE) (primP (Prim.lib libRepeat) [AV.str [32], AV.int .i64 n0]) st fun v2
 st3 x4 => asS v2 fun l5 => chk (apart (Fx.mk [] Did.kept) x4 && (apart (Fx.mk [] Did.kept) x4 && (apart (Fx.mk [] Did.kept) x4 && true))) (chk (Nat.ble (1 + List.length l5) 9223372036854775807) (letV (10 :: l5) fun l6
 => callS (orc vE) 44 [v1, AV.str l6] st3 fun _x st8 _x_1 => chk (notNil x0) (fldA 2 x0 fun v10 => storeS (orc vE) 1 v10 (AV.int .i64 n0) [AV.int .i64 n0] st8 fun _x st12 _x_2 => some (AV.tup [], st12)))))
theorem w33_eq (x0 x1 : AV) (st : St) : wideS vE 33 [x0, x1] st = w33 x0 x1 st := by kernel_rfl
/-- (rostrum/layout.stack).pop -/
noncomputable def g34 : AV → Option AV := fun x0 => lenS x0 fun k0 => letV (IntKind.wrap .i64 ((↑k0 : Int) - 1)) fun n1 => idxA 6 x0 n1 (St.mk 1 0 (Tr.node (some (VM.Obj.cells 59 [AV.int .u8 0, AV.str [], AV.int .i64 0,
 AV.nils, AV.int .i64 0, AV.bool false])) Tr.leaf Tr.leaf)) fun v2 _x => loadS 6 true v2 (St.mk 1 0 (Tr.node (some (VM.Obj.cells 59 [AV.int .u8 0, AV.str [], AV.int .i64 0, AV.nils, AV.int .i64 0, AV.bool false]))
 Tr.leaf Tr.leaf)) fun v4 _x => unA v4 fun l7 => unc l7 fun v8 l9 => asI .u8 v8 fun n10 => unc l9 fun v11 l12 => asS v11 fun l13 => unc l12 fun v14 l15 => asI .i64 v14 fun n16 => unc l15 fun v17 l18 => unc l18 fun v19
 l20 => asI .i64 v19 fun n21 => unc l20 fun v22 l23 => asB v22 fun b24 => un0 l23 (lenS x0 fun k25 => letV (IntKind.wrap .i64 ((↑k25 : Int) - 1)) fun n26 => sliceS 6 x0 none (some n26) none fun v27 => asOne v17 (frzS
 (St.mk 1 0 (Tr.node (some (VM.Obj.cells 59 [AV.int .u8 n10, AV.str l13, AV.int .i64 n16, v17, AV.int .i64 n21, AV.bool b24])) Tr.leaf Tr.leaf)) 0 (AV.tup [AV.agg [AV.int .u8 n10, AV.str l13, AV.int .i64 n16, v17, AV.int
 .i64 n21, AV.bool b24], v27]) fun v29 => some v29))
theorem g34_eq (x0 : AV) : bareS vE 34 [x0] = g34 x0 := by kernel_rfl
/-- (rostrum/layout.stack).push -/
noncomputable def g35_L1 (n19 : Int) (b20 : Bool) (v21 : AV) : Car → Option (Car ⊕ Nat × Car) := fun c27 => unc (Prod.fst c27) fun v28 l29 => unc l29 fun v30 l31 => asI .i64 v30 fun n32 => un0 l31 (ifB (decide (n32 ≥
 0)) (idxA 4 v21 n32 (Prod.snd c27) fun v33 _x => loadS 4 true v33 (Prod.snd c27) fun v35 _x => unA v35 fun l38 => unc l38 fun v39 l40 => asI .u8 v39 fun n41 => unc l40 fun v42 l43 => asS v42 fun l44 => unc l43 fun v45
 l46 => asI .i64 v45 fun n47 => unc l46 fun v48 l49 => un0 l49 (asOne v48 (asOne v48 (fit1 v48 fun v51 => asOne v51 (fit1 v51 fun v52 => appS 6 72 59 v28 [AV.agg [AV.int .u8 n41, AV.str l44, AV.int .i64 n47, v52, AV.int
 .i64 n19, AV.bool b20]] (Prod.snd c27) fun v53 st54 _x => letV (IntKind.wrap .i64 (n32 - 1)) fun n56 => some (Sum.inl ([v53, AV.int .i64 n56], st54))))))) (some (Sum.inr (0, [v28], Prod.snd c27))))
noncomputable def g35 : AV → AV → AV → AV → Option AV := fun x0 x1 x2 x3 => unA x1 fun l1 => unc l1 fun v2 l3 => asI .u8 v2 fun _x => unc l3 fun v5 l6 => asS v5 fun _x => unc l6 fun v8 l9 => asI .i64 v8 fun _x => unc l9
 fun v11 l12 => unc l12 fun v13 l14 => asI .i64 v13 fun _x => unc l14 fun v16 l17 => asB v16 fun _x => un0 l17 (asI .i64 x2 fun n19 => asB x3 fun b20 => asOne v11 (fit1 v11 fun v21 => lenS x0 fun k22 => lenS x0 fun k23
 => sliceS 6 x0 none (some (↑k22 : Int)) (some (↑k23 : Int)) fun v24 => lenS v21 fun k25 => letV (IntKind.wrap .i64 ((↑k25 : Int) - 1)) fun n26 => bindO (loopO (g35_L1 n19 b20 v21) ([v24, AV.int .i64 n26], St.mk 0 0
 Tr.leaf)) fun c57 => unc (Prod.fst (Prod.snd c57)) fun v58 l59 => un0 l59 (frzS (Prod.snd (Prod.snd c57)) 0 (oneOf [v58]) fun v60 => some v60)))
theorem g35_eq (x0 x1 x2 x3 : AV) : bareS vE 35 [x0, x1, x2, x3] = g35 x0 x1 x2 x3 := by kernel_rfl
/-- (*rostrum/layout.writer).fits -/
noncomputable def w36_L1 (x0 : AV) : Car → Option (Car ⊕ Nat × Car) := fun c4 => unc (Prod.fst c4) fun v5 l6 => asB v5 fun b7 => unc l6 fun v8 l9 => asI .i64 v8 fun n10 => unc l9 fun v11 l12 => un0 l12 (bindO (lenS v11
 fun k13 => ifB (decide ((↑k13 : Int) > 0)) (chk (notNil x0) (fldA 3 x0 fun v14 => loadS 1 false v14 (Prod.snd c4) fun v15 _x => asI .i64 v15 fun n17 => some ([AV.bool (decide (n10 ≤ n17))], Prod.snd c4))) (some
 ([AV.bool false], Prod.snd c4))) fun c18 => unc (Prod.fst c18) fun v19 l20 => asB v19 fun b21 => un0 l20 (ifB b21 (letSt (St.add (Prod.snd c18) (VM.Obj.cells 59 [AV.int .u8 0, AV.str [], AV.int .i64 0, AV.nils, AV.int
 .i64 0, AV.bool false])) fun st22 => callS (orc vE) 34 [v11] st22 fun v23 st24 _x => unT v23 fun l26 => nthS l26 0 fun v27 => unA v27 fun l29 => unc l29 fun v30 l31 => asI .u8 v30 fun n32 => unc l31 fun v33 l34 => asS
 v33 fun l35 => unc l34 fun v36 l37 => asI .i64 v36 fun n38 => unc l37 fun v39 l40 => unc l40 fun v41 l42 => asI .i64 v41 fun n43 => unc l42 fun v44 l45 => asB v44 fun b46 => un0 l45 (unT v23 fun l47 => nthS l47 1 fun
 v48 => asOne v39 (storeS (orc vE) 6 (AV.mp (St.h (Prod.snd c18)) 0) (AV.agg [AV.int .u8 n32, AV.str l35, AV.int .i64 n38, v39, AV.int .i64 n43, AV.bool b46]) [AV.int .u8 n32, AV.str l35, AV.int .i64 n38, v39, AV.int
 .i64 n43, AV.bool b46] st24 fun _x st50 _x_1 => loadS 1 false (AV.mp (St.h (Prod.snd c18)) 0) st50 fun v52 _x => asI .u8 v52 fun n54 => bindO (ifB (n54 == 1) (loadS 1 false (AV.mp (St.h (Prod.snd c18)) 1) st50 fun v55
 _x => asS v55 fun l57 => planS (orc vE) (primP (Prim.lib libRunes) [AV.str l57]) st50 fun v58 st59 _x => asI .i64 v58 fun n61 => letV (IntKind.wrap .i64 (n10 + n61)) fun n62 => some (Sum.inl ([AV.bool b7, AV.int .i64
 n62, v48], st59))) (bindO (ifB (n54 == 2) (some ([AV.bool (n54 == 2)], st50)) (bindO (ifB (n54 == 3) (some ([AV.bool (n54 == 3)], st50)) (some ([AV.bool (n54 == 4)], st50))) fun c63 => unc (Prod.fst c63) fun v64 l65 =>
 asB v64 fun b66 => un0 l65 (some ([AV.bool b66], Prod.snd c63)))) fun c67 => unc (Prod.fst c67) fun v68 l69 => asB v68 fun b70 => un0 l69 (bindO (ifB b70 (bindO (loadS 1 false (AV.mp (St.h (Prod.snd c18)) 5) (Prod.snd
 c67) fun v71 _x => asB v71 fun b73 => ifB (!b73) (some ([AV.bool true], Prod.snd c67)) (loadS 1 false (AV.mp (St.h (Prod.snd c18)) 0) (Prod.snd c67) fun v74 _x => asI .u8 v74 fun n76 => some ([AV.bool (n76 == 4)],
 Prod.snd c67))) fun c77 => unc (Prod.fst c77) fun v78 l79 => asB v78 fun b80 => un0 l79 (ifB b80 (some (Sum.inr (Sum.inr (Sum.inr (1, [AV.bool true, AV.int .i64 n10], Prod.snd c77))))) (loadS 1 false (AV.mp (St.h
 (Prod.snd c18)) 0) (Prod.snd c77) fun v81 _x => asI .u8 v81 fun n83 => bindO (ifB (n83 == 2) (letV (IntKind.wrap .i64 (n10 + 1)) fun n84 => some ([AV.int .i64 n84], Prod.snd c77)) (some ([AV.int .i64 n10], Prod.snd
 c77))) fun c85 => unc (Prod.fst c85) fun v86 l87 => asI .i64 v86 fun n88 => un0 l87 (some (Sum.inl ([AV.bool b7, AV.int .i64 n88, v48], Prod.snd c85)))))) (bindO (loadS 6 true (AV.mp (St.h (Prod.snd c18)) 0) (Prod.snd
 c67) fun v89 _x => unA v89 fun l92 => unc l92 fun v93 l94 => asI .u8 v93 fun n95 => unc l94 fun v96 l97 => asS v96 fun l98 => unc l97 fun v99 l100 => asI .i64 v99 fun n101 => unc l100 fun v102 l103 => unc l103 fun v104
 l105 => asI .i64 v104 fun n106 => unc l105 fun v107 l108 => asB v107 fun b109 => un0 l108 (loadS 1 false (AV.mp (St.h (Prod.snd c18)) 4) (Prod.snd c67) fun v110 _x => asI .i64 v110 fun n112 => loadS 1 false (AV.mp (St.h
 (Prod.snd c18)) 5) (Prod.snd c67) fun v113 _x => asB v113 fun b115 => ifB b115 (callS (orc vE) 35 [v48, AV.agg [AV.int .u8 n95, AV.str l98, AV.int .i64 n101, v102, AV.int .i64 n106, AV.bool b109], AV.int .i64 n112,
 AV.bool true] (Prod.snd c67) fun v116 st117 _x => some ([v116], st117)) (loadS 1 false (AV.mp (St.h (Prod.snd c18)) 0) (Prod.snd c67) fun v119 _x => asI .u8 v119 fun n121 => callS (orc vE) 35 [v48, AV.agg [AV.int .u8
 n95, AV.str l98, AV.int .i64 n101, v102, AV.int .i64 n106, AV.bool b109], AV.int .i64 n112, AV.bool (n121 == 6)] (Prod.snd c67) fun v122 st123 _x => some ([v122], st123)))) fun c125 => unc (Prod.fst c125) fun v126 l127
 => un0 l127 (some (Sum.inl ([AV.bool b7, AV.int .i64 n10, v126], Prod.snd c125))))) fun c128 => onSum c128 fun c129 => unc (Prod.fst c129) fun v130 l131 => asB v130 fun b132 => unc l131 fun v133 l134 => asI .i64 v133
 fun n135 => unc l134 fun v136 l137 => un0 l137 (some (Sum.inl ([AV.bool b132, AV.int .i64 n135, v136], Prod.snd c129)))))) fun c138 => onSum c138 fun c139 => unc (Prod.fst c139) fun v140 l141 => asB v140 fun b142 => unc
 l141 fun v143 l144 => asI .i64 v143 fun n145 => unc l144 fun v146 l147 => un0 l147 (some (Sum.inl ([AV.bool b142, AV.int .i64 n145, v146], Prod.snd c139)))))) (some (Sum.inr (0, [AV.bool b7, AV.int .i64 n10], Prod.snd
 c18)))))
noncomputable def w36 : AV → AV → St → Option (AV × St) := fun x0 x1 st => chk (notNil x0) (fldA 2 x0 fun v0 => loadS 1 false v0 st fun v1 _x => asI .i64 v1 fun n3 => bindO (loopO (w36_L1 x0) ([AV.bool false, AV.int
 .i64 n3, x1], st)) fun c148 => unc (Prod.fst (Prod.snd c148)) fun v149 l150 => asB v149 fun b151 => unc l150 fun v152 l153 => asI .i64 v152 fun n154 => un0 l153 (sel2 (Prod.fst c148) (chk (notNil x0) (fldA 3 x0 fun v155
 => loadS 1 false v155 (Prod.snd (Prod.snd c148)) fun v156 _x => asI .i64 v156 fun n158 => some (AV.bool (decide (n154 ≤ n158)), Prod.snd (Prod.snd c148)))) fun _x => some (AV.bool b151, Prod.snd (Prod.snd c148))))
theorem w36_eq (x0 x1 : AV) (st : St) : wideS vE 36 [x0, x1] st = w36 x0 x1 st := by kernel_rfl
/-- slices.IndexFunc[[]rostrum/layout.Doc,rostrum/layout.Doc] -/
noncomputable def g42_L1 (x0 : AV) (x1 : AV) (k0 : Nat) : Car → Option (Car ⊕ Nat × Car) := fun c1 => unc (Prod.fst c1) fun v2 l3 => asI .i64 v2 fun n4 => unc l3 fun v5 l6 => asI .i64 v5 fun n7 => un0 l6 (ifB (decide
 (n7 < (↑k0 : Int))) (idxA 4 x0 n7 (Prod.snd c1) fun v8 _x => loadS 4 true v8 (Prod.snd c1) fun v10 _x => unA v10 fun l13 => unc l13 fun v14 l15 => asI .u8 v14 fun n16 => unc l15 fun v17 l18 => asS v17 fun l19 => unc l18
 fun v20 l21 => asI .i64 v20 fun n22 => unc l21 fun v23 l24 => un0 l24 (callF (orc vE) (Sx.prim (sx vE 42)) x1 [AV.agg [AV.int .u8 n16, AV.str l19, AV.int .i64 n22, v23]] (Prod.snd c1) fun v25 st26 _x => asB v25 fun b28
 => ifB b28 (some (Sum.inr (1, [AV.int .i64 n7], st26))) (letV (IntKind.wrap .i64 (n7 + 1)) fun n29 => some (Sum.inl ([AV.int .i64 n4, AV.int .i64 n29], st26))))) (some (Sum.inr (0, [AV.int .i64 n4], Prod.snd c1))))
noncomputable def g42 : AV → AV → Option AV := fun x0 x1 => lenS x0 fun k0 => bindO (loopO (g42_L1 x0 x1 k0) ([AV.int .i64 0, AV.int .i64 0], St.mk 0 0 Tr.leaf)) fun c30 => unc (Prod.fst (Prod.snd c30)) fun v31 l32 =>
 asI .i64 v31 fun n33 => un0 l32 (sel2 (Prod.fst c30) (some (AV.int .i64 (-1))) fun _x => some (AV.int .i64 n33))
theorem g42_eq (x0 x1 : AV) : bareS vE 42 [x0, x1] = g42 x0 x1 := by kernel_rfl
/-- (*strings.Builder).WriteString -/
noncomputable def w44 : AV → AV → St → Option (AV × St) := fun x0 x1 st => asS x1 fun l0 => planS (orc vE) (primP (Prim.copyCheck [(53, 2, 0), (54, 2, 0), (55, 4, 0), (56, 4, 0)]) [x0]) st fun _x st2 _x_1 => chk (notNil
 x0) (fldA 1 x0 fun v4 => loadS 1 false v4 st2 fun v5 _x => fitTs false (ofBytes l0) fun l7 => chk (sizesOk 1 l7) (appS 1 1 5 v5 l7 st2 fun v8 st9 _x => chk (notNil x0) (fldA 1 x0 fun v11 => asOne v8 (asOne v8 (storeS
 (orc vE) 1 v11 v8 [v8] st9 fun _x st13 _x_2 => some (AV.tup [AV.int .i64 (↑(List.length l0) : Int), AV.nili], st13))))))
theorem w44_eq (x0 x1 : AV) (st : St) : wideS vE 44 [x0, x1] st = w44 x0 x1 st := by kernel_rfl
end Go.Proofs.YteajphhelkdjnaaDoor.Vm
/- Layouts cs data. -/
set_option maxRecDepth 100000
namespace Go.Proofs.YteajphhelkdjnaaDoor.Vm
open Go Go.VM Go.Proofs

inductive Doc where
  | mk (kind : Int) (text : List UInt8) (n : Int) (kids : List Doc)
mutual
/-- A layout, cs a value. -/
def IsDoc : Doc → AV → Prop
  | .mk k s n kids, v => ∃ x es, v = .agg [.int .u8 k, .str s, .int .i64 n, x] ∧ (0 ≤ k ∧ k ≤ 255) ∧ s.length ≤ 9223372036854775807 ∧ (-9223372036854775808 ≤ n ∧ n ≤ 9223372036854775807) ∧ IsSl 4 x es ∧ IsDocs kids es
def IsDocs : List Doc → List AV → Prop
  | [], es => es = []
  | d :: ds, es => ∃ v vs, es = v :: vs ∧ IsDoc d v ∧ IsDocs ds vs
end
def lawS : List TypeId := [24, 5, 9, 3, 22]
theorem lawS_ok : ∀ t, inS lawS t = true → okTy Tryd.prog lawS t = true := by
  intro t ht
  have : t ∈ lawS := by
    obtain ⟨u, hu, e⟩ := List.any_eq_true.1 ht
    rw [← Nat.eq_of_beq_eq_true e]; exact hu
  exact List.all_eq_true.1 (show (lawS.all fun t => okTy Tryd.prog lawS t) = true by kernel_rfl) t this
theorem av_int {n t : Nat} {k : IntKind} {cs : List AV} (hu : Tryd.prog.underlying t = some (.int k)) (h : AvOf Tryd.prog n t cs) : ∃ m, cs = [.int k m] ∧ k.min ≤ m ∧ m ≤ k.max := by
  cases n with
  | zero => cases h
  | succ n => simp only [AvOf, hu] at h; exact h
theorem av_str {n t : Nat} {cs : List AV} (hu : Tryd.prog.underlying t = some .string) (h : AvOf Tryd.prog n t cs) : ∃ s, cs = [.str s] ∧ s.length ≤ maxLen := by
  cases n with
  | zero => cases h
  | succ n => simp only [AvOf, hu] at h; exact h
theorem sl_of {n t e : Nat} {cs : List AV} {Q : AV → Prop} (hu : Tryd.prog.underlying t = some (.slice e)) (h : AvOf Tryd.prog n t cs) (hQ : ∀ a, AvOf Tryd.prog (n - 1) e a → Q (mkV (isSt Tryd.prog e) a)) :
    ∃ x es, cs = [x] ∧ IsSl (Tryd.prog.cellsOf e) x es ∧ ∀ v ∈ es, Q v := by
  cases n with
  | zero => cases h
  | succ n =>
    simp only [AvOf, hu] at h
    rcases h with rfl | rfl | ⟨L, rfl, hl, hL⟩
    · exact ⟨_, [], rfl, IsSl.nils, by simp⟩
    · exact ⟨_, [], rfl, IsSl.emp, by simp⟩
    · refine ⟨_, _, rfl, IsSl.wide (by rw [List.length_map]; simpa [maxLen] using hl), fun v hv => ?_⟩
      obtain ⟨a, ha, rfl⟩ := List.mem_map.1 hv
      exact hQ a (hL a ha)
theorem docs_of : ∀ {es : List AV}, (∀ v ∈ es, ∃ d, IsDoc d v) → ∃ ds, IsDocs ds es
  | [], _ => ⟨[], rfl⟩
  | v :: vs, h => by
    obtain ⟨d, hd⟩ := h v (by simp)
    obtain ⟨ds, hds⟩ := docs_of (es := vs) fun u hu => h u (List.mem_cons_of_mem _ hu)
    exact ⟨d :: ds, v, vs, rfl, hd, hds⟩
theorem doc_of (n : Nat) : ∀ cs, AvOf Tryd.prog n 24 cs → ∃ d, IsDoc d (.agg cs) := by
  induction n using Nat.strongRecOn with
  | _ n ih =>
    intro cs h
    cases n with
    | zero => cases h
    | succ n =>
      simp only [AvOf, Tryd.underlying24] at h
      obtain ⟨a0, b0, rfl, h0, a1, b1, rfl, h1, a2, b2, rfl, h2, a3, b3, rfl, h3, rfl⟩ := h
      obtain ⟨k, rfl, hk⟩ := av_int Tryd.underlying5 h0
      obtain ⟨s, rfl, hs⟩ := av_str Tryd.underlying9 h1
      obtain ⟨m, rfl, hm⟩ := av_int Tryd.underlying3 h2
      obtain ⟨x, es, rfl, hx, hes⟩ := sl_of (Q := fun v => ∃ d, IsDoc d v) Tryd.underlying22 h3 fun a ha => by
        have hst : isSt Tryd.prog 24 = true := by kernel_rfl
        rw [hst]
        exact ih (n - 1) (by omega) a ha
      obtain ⟨ds, hds⟩ := docs_of hes
      have hz : Tryd.prog.cellsOf 24 = 4 := by kernel_rfl
      rw [hz] at hx
      exact ⟨.mk k s m ds, x, es, rfl, hk, by simpa [maxLen] using hs, hm, hx, hds⟩
end Go.Proofs.YteajphhelkdjnaaDoor.Vm
/- Layouts: hard, by the reference and by the program. -/
set_option maxRecDepth 100000
namespace Go.Proofs.YteajphhelkdjnaaDoor.Vm
open Go Go.VM Go.Proofs

mutual
def hardD : Doc → Bool
  | .mk k _ _ kids => k == 4 || hardDs kids
def hardDs : List Doc → Bool
  | [] => false
  | d :: l => hardD d || hardDs l
end
theorem IsDoc.bare {d : Doc} {v : AV} (h : IsDoc d v) : VM.bare v = true ∧ strip v = v := by
  cases d with
  | mk k s n kids =>
    obtain ⟨x, es, rfl, _, _, _, hx, _⟩ := h
    refine ⟨?_, rfl⟩
    show (true && (true && (true && (VM.bare x && true)))) = true
    rw [hx.bare]; rfl
theorem call1 {f : FuncId} {v r : AV} (st : St) (hf : vE.full f = false) (hb : VM.bare v = true ∧ strip v = v) (h : (orc vE).bare f [v] = some r) {β : Type} (K : Kv β) : callS (orc vE) f [v] st K = K r st q0 :=
  callS_bare st K hf (by simp [hb.2]) (by simp [bares_cons, hb.1]; rfl) h
/-- An element of a slice of layouts is read: what follows. -/
theorem elem_doc {β : Type} {ds : List Doc} {d : Doc} {x : AV} {es : List AV} {i : Nat} (hx : IsSl 4 x es) (hd : IsDocs (d :: ds) (es.drop i)) : ∃ v, IsDoc d v ∧ IsDocs ds (es.drop (i + 1)) ∧ ((i : Int) < (es.length : Int)) ∧
    IntKind.wrap .i64 ((i : Int) + 1) = ((i + 1 : Nat) : Int) ∧ (∀ (st : St) (K : AV → List Nat → Option β), idxA 4 x (i : Int) st K = K (.ip v.cells) []) ∧ takeO 4 true v.cells = some v := by
  obtain ⟨v, vs, he, hv, hd⟩ := hd
  obtain ⟨hg, hr, hlt⟩ := drop_cons he
  refine ⟨v, hv, by rw [hr]; exact hd, by omega, wrap_i64 (by omega) (by have := hx.1; omega), fun st K => hx.idx hg st K, ?_⟩
  obtain ⟨k, s, n, kids⟩ := d
  obtain ⟨y, es', rfl, _⟩ := hv
  rfl
theorem no_doc {es : List AV} {i : Nat} (hd : IsDocs [] (es.drop i)) : ¬ ((i : Int) < (es.length : Int)) := by
  have hd : es.drop i = [] := hd
  have := List.drop_eq_nil_iff.1 hd
  omega
/-- The first of a list of layouts that is as a function says. -/
def findD (p : Doc → Bool) : List Doc → Nat → Option Nat
  | [], _ => none
  | d :: l, i => if p d then some i else findD p l (i + 1)
theorem findD_some {p : Doc → Bool} : ∀ {l : List Doc} {i : Nat}, (findD p l i).isSome = l.any p
  | [], _ => rfl
  | d :: l, i => by
    simp only [findD, List.any_cons]
    cases h : p d
    · simpa [h] using findD_some (p := p) (l := l) (i := i + 1)
    · simp
/-- slices.IndexFunc's loop. -/
theorem index_loop {f : FuncId} (hf : vE.full f = false) (hp : vE.prim f = none) (p : Doc → Bool) : ∀ (ds : List Doc) (x : AV) (es : List AV) (i : Nat) (st : St), IsSl 4 x es → IsDocs ds (es.drop i) →
    (∀ d ∈ ds, ∀ v, IsDoc d v → (orc vE).bare f [v] = some (.bool (p d))) →
    loopO (g42_L1 x (.fn (.func f) [] []) es.length) ([.int .i64 0, .int .i64 (i : Int)], st) = some (match findD p ds i with | some j => (1, [.int .i64 (j : Int)], st) | none => (0, [.int .i64 0], st))
  | [], x, es, i, st, hx, hd, _ => by
    have hi := no_doc hd
    rw [loopO_eq]
    simp [g42_L1, hi, findD]
  | d :: ds, x, es, i, st, hx, hd, hc => by
    obtain ⟨v, hv, hd, hi, hw, hidx, ht⟩ := elem_doc (β := Sum Car (Nat × Car)) hx hd
    have hcall := fun K => call1 (β := Sum Car (Nat × Car)) (f := f) st hf hv.bare (hc d (by simp) v hv) K
    have ih := index_loop hf hp p ds x es (i + 1) st hx hd fun d hd => hc d (by simp [hd])
    have hF : ∀ (a : AV) (K : Kv (Sum Car (Nat × Car))), callF (orc vE) (Sx.prim (sx vE 42)) (.fn (.func f) [] []) [a] st K = callS (orc vE) f [a] st K := fun a K => by
      have hp : Sx.prim (sx vE 42) f = none := hp
      simp only [callF, callP, hp, List.nil_append, List.append_nil]
      rfl
    obtain ⟨k, s, n, kids⟩ := d
    obtain ⟨y, es', rfl, _⟩ := hv
    rw [loopO_eq]
    simp only [g42_L1, unc_cons, asI_int, un0_nil, ifB_decide, if_pos hi, hidx, loadS_ip, ht, bindO_ok, unA_agg, asS_str, hF, hcall, letV_eq, hw, asB_bool]
    cases hh : p (.mk k s n kids)
    · simp only [ifB_false, findD, hh]; exact ih
    · simp [findD, hh]
theorem contains_of {f : FuncId} (hf : vE.full f = false) (hp : vE.prim f = none) (p : Doc → Bool) {ds : List Doc} {x : AV} {es : List AV} (hx : IsSl 4 x es) (hd : IsDocs ds es)
    (hc : ∀ d ∈ ds, ∀ v, IsDoc d v → (orc vE).bare f [v] = some (.bool (p d))) {β : Type} (st : St) (K : Kv β) : callS (orc vE) 29 [x, .fn (.func f) [] []] st K = K (.bool (ds.any p)) st q0 := by
  have h42 : (orc vE).bare 42 [x, .fn (.func f) [] []] = some (.int .i64 (match findD p ds 0 with | some j => (j : Int) | none => -1)) := by
    refine bare_of rfl ((g42_eq _ _).trans ?_)
    have hl : loopO (g42_L1 x (.fn (.func f) [] []) es.length) ([.int .i64 0, .int .i64 0], St.mk 0 0 Tr.leaf) = _ := index_loop hf hp p ds x es 0 (St.mk 0 0 Tr.leaf) hx (by simpa using hd) hc
    simp only [g42, hx.len, hl]
    cases findD p ds 0 <;> simp
  have hbs : [x, AV.fn (.func f) [] []].map strip = [x, AV.fn (.func f) [] []] := by simp [hx.strip]; rfl
  have hbb : bares [x, AV.fn (.func f) [] []] = true := by simp only [bares_cons, hx.bare]; rfl
  refine callS_bare st K rfl hbs hbb (bare_of rfl ((g29_eq _ _).trans ?_))
  rw [g29, callS_bare _ _ rfl hbs hbb h42]
  have := findD_some (p := p) (l := ds) (i := 0)
  cases h : findD p ds 0 with
  | none => rw [h] at this; simp [← this]
  | some j => rw [h] at this; simp [← this]
theorem hardDs_any : ∀ (ds : List Doc), hardDs ds = ds.any hardD
  | [] => rfl
  | d :: ds => by simp [hardDs, hardDs_any ds]
theorem mem_size {d : Doc} : ∀ {ds : List Doc}, d ∈ ds → SizeOf.sizeOf d < SizeOf.sizeOf ds
  | _ :: _, h => by
    rcases List.mem_cons.1 h with rfl | h
    · simp; omega
    · have := mem_size h; simp; omega
/-- The program's hard. -/
theorem hard_prog (d : Doc) (v : AV) (hv : IsDoc d v) : (orc vE).bare 25 [v] = some (.bool (hardD d)) := by
  match d with
  | .mk k s n kids =>
    obtain ⟨x, es, rfl, _, _, _, hx, hes⟩ := hv
    refine bare_of rfl ((g25_eq _).trans ?_)
    have hc := fun (K : Kv Car) => contains_of (f := 25) rfl rfl hardD hx hes (fun d hd v hv => hard_prog d v hv) (St.mk 0 0 Tr.leaf) K
    simp only [g25, unA_agg, unc_cons, asI_int, asS_str, un0_nil, hx.asOne, hx.fit1, hc]
    by_cases hk : k = 4
    · subst hk; simp [hardD]
    · simp [hk, hardD, hardDs_any]
termination_by SizeOf.sizeOf d
decreasing_by
  have := mem_size hd
  simp_wf
  omega
end Go.Proofs.YteajphhelkdjnaaDoor.Vm
/- Layouts: characters; how many parts. -/
set_option maxRecDepth 100000
namespace Go.Proofs.YteajphhelkdjnaaDoor.Vm
open Go Go.VM Go.Proofs

end Go.Proofs.YteajphhelkdjnaaDoor.Vm
/- Layouts: the law's copy of a layout. -/
set_option maxRecDepth 100000
namespace Go.Proofs.YteajphhelkdjnaaDoor.Vm
open Go Go.VM Go.Proofs

mutual
def cntD : Doc → Nat
  | .mk _ _ _ kids => 1 + cntDs kids
def cntDs : List Doc → Nat
  | [] => 0
  | d :: l => cntD d + cntDs l
end
theorem cnt_pos : ∀ (d : Doc), 1 ≤ cntD d
  | .mk _ _ _ _ => by simp [cntD]
/-- The copy's state: the copy lies at 1. -/
structure InvG (st : St) (k : Int) (s : List UInt8) (n : Int) (v : AV) (ws : List AV) : Prop where
  c1 : st.get 1 = .ok (.cells 32 [.int .u8 k, .str s, .int .i64 n, v])
  c0 : ∃ cs, st.get 0 = .ok (.cells 32 cs) ∧ cs.length = 4
  own : Own st 4 32 v ws
  ro : st.ro = 0
theorem store_at {β : Type} {st : St} {id off : Nat} {t : TypeId} {old : List AV} {z : Nat} {v : AV} {cs : List AV} (hg : st.get id = .ok (.cells t old)) (hz : cs.length = z) (hl : off + cs.length ≤ old.length) (hro : st.ro ≤ id) (K : Kv β) :
    storeS (orc vE) z (.mp id off) v cs st K = K VM.undef (st.put id (.cells t (splice old off cs))) ⟨[id], .wrote id (.cells t (splice old off cs))⟩ := by
  have h1 : cs.length.beq z = true := by rw [hz]; exact Nat.beq_refl z
  simp only [storeS, outS, storeO, h1, hg, Nat.ble_eq_true_of_le hl, wroteO, Nat.ble_eq_true_of_le hro, bindO_ok, splS]
theorem IsDocs.snoc : ∀ {ds : List Doc} {ws : List AV} {d : Doc} {w : AV}, IsDocs ds ws → IsDoc d w → IsDocs (ds ++ [d]) (ws ++ [w])
  | [], ws, d, w, h, hw => by
    have h : ws = [] := h
    subst h
    exact ⟨w, [], rfl, hw, rfl⟩
  | e :: ds, ws, d, w, h, hw => by
    obtain ⟨u, us, rfl, hu, h⟩ := h
    exact ⟨u, us ++ [w], rfl, hu, IsDocs.snoc h hw⟩
mutual
theorem given_ok : ∀ (d : Doc) (v : AV), IsDoc d v → cntD d ≤ 100000 → ∃ v', (orc vE).bare 11 [v] = some v' ∧ IsDoc d v'
  | .mk k s n kids, v, hv, hc => by
    obtain ⟨x, es, rfl, r1, r2, r3, hx, hes⟩ := hv
    simp only [cntD] at hc
    obtain ⟨st', v', us, hrun, hus, hfin⟩ := given_loop kids x es 0 (St.mk 2 0 (Tr.node (some (VM.Obj.cells 32 [AV.int .u8 0, AV.str [], AV.int .i64 0, AV.nils])) (Tr.node
      (some (VM.Obj.cells 32 [.int .u8 k, AV.str s, .int .i64 n, AV.nils])) Tr.leaf Tr.leaf) Tr.leaf)) k s n .nils [] hx (by simpa using hes) (by simp; omega)
      ⟨rfl, ⟨_, rfl, rfl⟩, Own.nils (show 0 ≤ 2 by omega) 4 32, rfl⟩
    obtain ⟨cs0, hc0, hl0⟩ := hfin.c0
    have hro : st'.ro ≤ 0 := by rw [hfin.ro]; exact Nat.le_refl _
    have hst := fun K => store_at (β := AV) (id := 0) (off := 0) (z := 4) (v := .agg [.int .u8 k, .str s, .int .i64 n, v']) (cs := [.int .u8 k, .str s, .int .i64 n, v']) hc0 rfl (by simp [hl0]) hro K
    have hsp : splice cs0 0 [.int .u8 k, .str s, .int .i64 n, v'] = [.int .u8 k, .str s, .int .i64 n, v'] := by
      simp [splice, hl0]
    rw [hsp] at hst
    have hg0 : (st'.put 0 (.cells 32 [.int .u8 k, .str s, .int .i64 n, v'])).get 0 = .ok (.cells 32 [.int .u8 k, .str s, .int .i64 n, v']) := St.get_put_same (St.get_ok.1 hc0).1
    have hfz : ∃ y, IsSl 4 y us ∧ ∀ (st : St) (K : AV → Option AV), frzS st 0 (.agg [.int .u8 k, .str s, .int .i64 n, v']) K = K (.agg [.int .u8 k, .str s, .int .i64 n, y]) := by
      rcases hfin.own with ⟨_, hle, ⟨rfl | rfl, hu⟩ | rfl | ⟨j, rfl, _, _⟩⟩
      · have hu : us = [] := by simpa using hu
        subst hu
        exact ⟨.nils, IsSl.nils, fun _ _ => rfl⟩
      · have hu : us = [] := by simpa using hu
        subst hu
        exact ⟨.es, IsSl.emp, fun _ _ => rfl⟩
      · exact ⟨.sl 4 us .shut, IsSl.shut (by simpa using hle), fun _ _ => rfl⟩
      · exact ⟨.sl 4 us .wide, IsSl.wide (by simpa using hle), fun _ _ => rfl⟩
    obtain ⟨y, hy, hfz⟩ := hfz
    have ho := hfin.own.one
    refine ⟨.agg [.int .u8 k, .str s, .int .i64 n, y], bare_of rfl ((g11_eq _).trans ?_), y, us, rfl, r1, r2, r3, hy, hus⟩
    have hrun : loopO (g11_L1 x) ([AV.int .i64 0], _) = _ := hrun
    have ht : ∀ v : AV, takeO 4 true [.int .u8 k, .str s, .int .i64 n, v] = some (.agg [.int .u8 k, .str s, .int .i64 n, v]) := fun _ => rfl
    simp only [g11, unA_agg, unc_cons, asI_int, asS_str, un0_nil, hx.asOne, hx.fit1, hrun, bindO_ok, loadS_mp hfin.c1, List.drop_zero, ht, asOne_of ho, hst, loadS_mp hg0, hfz]
theorem given_loop : ∀ (ds : List Doc) (x : AV) (es : List AV) (i : Nat) (st : St) (k : Int) (s : List UInt8) (n : Int) (v : AV) (ws : List AV), IsSl 4 x es → IsDocs ds (es.drop i) → cntDs ds + ws.length ≤ 100000 → InvG st k s n v ws →
    ∃ st' v' us, loopO (g11_L1 x) ([.int .i64 (i : Int)], st) = some (0, [], st') ∧ IsDocs ds us ∧ InvG st' k s n v' (ws ++ us)
  | [], x, es, i, st, k, s, n, v, ws, hx, hd, hc, hI => by
    have hi := no_doc hd
    refine ⟨st, v, [], ?_, rfl, by simpa using hI⟩
    rw [loopO_eq]
    simp [g11_L1, hx.len, hi]
  | d :: ds, x, es, i, st, k, s, n, v, ws, hx, hd, hc, hI => by
    obtain ⟨u, hu, hd2, hi, hw, hidx, ht⟩ := elem_doc (β := Sum Car (Nat × Car)) hx hd
    simp only [cntDs] at hc
    obtain ⟨u', hcall, hu'⟩ := given_ok d u hu (by omega)
    have hcall := fun K => call1 (β := Sum Car (Nat × Car)) (f := 11) st rfl hu.bare hcall K
    have hpos := cnt_pos d
    obtain ⟨k', s', n', kids⟩ := d
    obtain ⟨y, es', rfl, _⟩ := hu
    have hu2 := hu'
    obtain ⟨y', es2, rfl, r1, r2, r3, hy', hk'⟩ := hu'
    have hroom : roomOk (ws.length + [AV.agg [.int .u8 k', .str s', .int .i64 n', y']].length) ⟨.other, 4, 56, [], false, false⟩ = true := by
      simp only [roomOk, List.length_singleton, Bool.and_eq_true]
      refine ⟨Nat.ble_eq_true_of_le (by omega), rfl, Nat.ble_eq_true_of_le (by omega)⟩
    obtain ⟨v2, st2, x2, happ, hown, hkeep, hnew⟩ := app_own (b := 56) hI.own (new := [.agg [.int .u8 k', .str s', .int .i64 n', y']]) (by simp) hroom
    have g1 := hkeep.old 1 _ (hI.own.not hI.c1) hI.c1
    obtain ⟨cs0, hc0, hl0⟩ := hI.c0
    have g0 := hkeep.old 0 _ (hI.own.not hc0) hc0
    have hro2 : st2.ro = 0 := by rw [hkeep.ro]; exact hI.ro
    have hst := fun K => store_at (β := Sum Car (Nat × Car)) (id := 1) (off := 3) (z := 1) (v := v2) (cs := [v2]) g1 rfl (by simp) (by omega) K
    have h1lt := (St.get_ok.1 g1).1
    have hI' : InvG (st2.put 1 (.cells 32 [.int .u8 k, .str s, .int .i64 n, v2])) k s n v2 (ws ++ [.agg [.int .u8 k', .str s', .int .i64 n', y']]) := by
      refine ⟨St.get_put_same h1lt, ⟨cs0, by rw [St.get_put_ne (by omega)]; exact g0, hl0⟩, ?_, hro2⟩
      exact hown.put g1
    obtain ⟨st', v', us, hrun, hus, hfin⟩ := given_loop ds x es (i + 1) _ k s n v2 _ hx hd2 (by rw [List.length_append]; simp; omega) hI'
    refine ⟨st', v', .agg [.int .u8 k', .str s', .int .i64 n', y'] :: us, ?_, ⟨_, _, rfl, hu2, hus⟩, by simpa using hfin⟩
    have hap : (apart (Fx.mk [1] Did.kept) q0 && (apart (Fx.mk [] Did.kept) q0 && true)) = true := rfl
    have ho2 := hown.one
    rw [loopO_eq]
    simp only [g11_L1, unc_cons, asI_int, un0_nil, hx.len, ifB_decide, if_pos hi, loadS_mp hI.c1, List.drop_succ_cons, List.drop_zero, takeO_one, bindO_ok, hidx, loadS_ip, ht, unA_agg, asS_str, hcall, hap, chk_true, hy'.asOne, hy'.fit1, appS_of happ, asOne_of ho2, hst, letV_eq, hw]
    exact hrun
end
end Go.Proofs.YteajphhelkdjnaaDoor.Vm
/- Layouts: how many parts, as far as a bound. -/
set_option maxRecDepth 100000
namespace Go.Proofs.YteajphhelkdjnaaDoor.Vm
open Go Go.VM Go.Proofs

mutual
def costD : Doc → Nat
  | .mk _ s _ kids => 1 + s.length / 20 + costDs kids
def costDs : List Doc → Nat
  | [] => 0
  | d :: l => costD d + costDs l
end
def BB : Nat := 461168601842738791
mutual
theorem parts_ok : ∀ (d : Doc) (v : AV) (most : Nat), IsDoc d v → most ≤ 1000000 →
    ∃ r : Nat, (orc vE).bare 8 [v, .int .i64 (most : Int)] = some (.int .i64 (r : Int)) ∧ r ≤ most + BB ∧ (costD d < most → r = costD d) ∧ (most ≤ costD d → most ≤ r)
  | .mk k s n kids, v, most, hv, hm => by
    obtain ⟨x, es, rfl, r1, r2, r3, hx, hes⟩ := hv
    have e1 : Int.tdiv ((s.length : Nat) : Int) 20 = ((s.length / 20 : Nat) : Int) := by
      rw [Int.tdiv_eq_ediv_of_nonneg (by omega)]; rfl
    have hw1 : IntKind.wrap .i64 (Int.tdiv ((s.length : Nat) : Int) 20) = ((s.length / 20 : Nat) : Int) := by rw [e1]; exact wrap_i64 (by omega) (by omega)
    have hw2 : IntKind.wrap .i64 (1 + ((s.length / 20 : Nat) : Int)) = ((1 + s.length / 20 : Nat) : Int) := wrap_i64 (by omega) (by omega)
    obtain ⟨r, hrun, h1, h2, h3⟩ := parts_loop kids x es 0 (St.mk 0 0 Tr.leaf) (1 + s.length / 20) most hx (by simpa using hes) (by unfold BB; omega) hm
    refine ⟨r, bare_of rfl ((g8_eq _ _).trans ?_), h1, by simpa [costD] using h2, by simpa [costD] using h3⟩
    have hrun : loopO (g8_L1 (most : Int) x) ([.int .i64 ((1 + s.length / 20 : Nat) : Int), .int .i64 0], _) = _ := hrun
    simp only [g8, unA_agg, unc_cons, asI_int, asS_str, un0_nil, hx.asOne, hx.fit1, letV_eq, hw1, hw2, hrun, bindO_ok]
theorem parts_loop : ∀ (ds : List Doc) (x : AV) (es : List AV) (i : Nat) (st : St) (n most : Nat), IsSl 4 x es → IsDocs ds (es.drop i) → n ≤ most + BB → most ≤ 1000000 →
    ∃ r : Nat, loopO (g8_L1 (most : Int) x) ([.int .i64 (n : Int), .int .i64 (i : Int)], st) = some (0, [.int .i64 (r : Int)], st) ∧ r ≤ most + BB ∧ (n + costDs ds < most → r = n + costDs ds) ∧ (most ≤ n + costDs ds → most ≤ r)
  | [], x, es, i, st, n, most, hx, hd, hn, hm => by
    have hi := no_doc hd
    refine ⟨n, ?_, hn, by simp [costDs], by simp [costDs]⟩
    rw [loopO_eq]
    simp [g8_L1, hx.len, hi]
  | d :: ds, x, es, i, st, n, most, hx, hd, hn, hm => by
    obtain ⟨u, hu, hd2, hi, hw, hidx, ht⟩ := elem_doc (β := Sum Car (Nat × Car)) hx hd
    by_cases hlt : n < most
    · obtain ⟨q, hcall, q1, q2, q3⟩ := parts_ok d u (most - n) hu (by omega)
      have hcall : ∀ K, callS (orc vE) 8 [u, .int .i64 ((most - n : Nat) : Int)] st K = K (.int .i64 (q : Int)) st q0 := fun K => callS_bare (β := Sum Car (Nat × Car)) st K rfl (by simp [hu.bare.2]; rfl) (by simp only [bares_cons, hu.bare.1]; rfl) hcall
      have hwm : IntKind.wrap .i64 ((most : Int) - (n : Int)) = ((most - n : Nat) : Int) := by rw [wrap_i64 (by omega) (by omega)]; omega
      have hwq : IntKind.wrap .i64 ((n : Int) + (q : Int)) = ((n + q : Nat) : Int) := wrap_i64 (by omega) (by unfold BB at *; omega)
      obtain ⟨r, hrun, h1, h2, h3⟩ := parts_loop ds x es (i + 1) st (n + q) most hx hd2 (by omega) hm
      refine ⟨r, ?_, h1, fun h => ?_, fun h => ?_⟩
      · have hlt' : (n : Int) < (most : Int) := by omega
        obtain ⟨k', s', n', kids⟩ := d
        obtain ⟨y, es', rfl, _⟩ := hu
        rw [loopO_eq]
        simp only [g8_L1, unc_cons, asI_int, un0_nil, hx.len, ifB_decide, if_pos hi, if_pos hlt', bindO_ok, asB_bool, hidx, loadS_ip, ht, unA_agg, asS_str, letV_eq, hwm, hcall, hwq, hw]
        exact hrun
      · simp only [costDs] at h ⊢
        have := q2 (by omega)
        rw [h2 (by omega)]; omega
      · simp only [costDs] at h
        apply h3
        by_cases hq : costD d < most - n
        · rw [q2 hq]; omega
        · have := q3 (by omega); omega
    · refine ⟨n, ?_, hn, fun h => ?_, fun _ => by omega⟩
      · have hlt' : ¬ (n : Int) < (most : Int) := by omega
        rw [loopO_eq]
        simp [g8_L1, hx.len, hi, hlt']
      · omega
end
end Go.Proofs.YteajphhelkdjnaaDoor.Vm
/- Layouts: what is still to be laid out: push and pop. -/
set_option maxRecDepth 100000
namespace Go.Proofs.YteajphhelkdjnaaDoor.Vm
open Go Go.VM Go.Proofs

def All2 {α : Type} (R : α → AV → Prop) : List α → List AV → Prop
  | [], ws => ws = []
  | a :: l, ws => ∃ v vs, ws = v :: vs ∧ R a v ∧ All2 R l vs
theorem All2.len {α : Type} {R : α → AV → Prop} : ∀ {l : List α} {ws : List AV}, All2 R l ws → ws.length = l.length
  | [], _, h => by rw [show _ = [] from h]; rfl
  | a :: l, _, h => by
    obtain ⟨v, vs, rfl, _, h⟩ := h
    simp [All2.len h]
theorem All2.append {α : Type} {R : α → AV → Prop} : ∀ {l m : List α} {ws us : List AV}, All2 R l ws → All2 R m us → All2 R (l ++ m) (ws ++ us)
  | [], _, _, _, h, k => by rw [show _ = [] from h]; exact k
  | a :: l, _, _, _, h, k => by
    obtain ⟨v, vs, rfl, h1, h⟩ := h
    exact ⟨v, vs ++ _, rfl, h1, All2.append h k⟩
theorem All2.at {α : Type} {R : α → AV → Prop} : ∀ {l : List α} {ws : List AV} {i : Nat} {a : α}, All2 R l ws → l[i]? = some a → ∃ v, ws[i]? = some v ∧ R a v
  | [], _, _, _, _, h => by simp at h
  | b :: l, _, 0, a, h, hi => by
    obtain ⟨v, vs, rfl, h1, _⟩ := h
    simp at hi; subst hi
    exact ⟨v, rfl, h1⟩
  | b :: l, _, i + 1, a, h, hi => by
    obtain ⟨v, vs, rfl, _, h⟩ := h
    obtain ⟨u, h2, h3⟩ := All2.at h (by simpa using hi)
    exact ⟨u, by simpa using h2, h3⟩
theorem IsDocs.all : ∀ {ds : List Doc} {es : List AV}, IsDocs ds es → All2 IsDoc ds es
  | [], _, h => h
  | _ :: _, _, h => by
    obtain ⟨v, vs, rfl, h1, h⟩ := h
    exact ⟨v, vs, rfl, h1, h.all⟩
/-- A layout that is still to be laid out, its indent, whether flat. -/
abbrev Todo := Doc × Int × Bool
def IsTodo (f : Todo) (v : AV) : Prop := ∃ c0 c1 c2 c3, IsDoc f.1 (.agg [c0, c1, c2, c3]) ∧ v = .agg [c0, c1, c2, c3, .int .i64 f.2.1, .bool f.2.2]
theorem push_loop (ind : Int) (fl : Bool) {kids : List Doc} {x : AV} {es : List AV} (hx : IsSl 4 x es) (hk : IsDocs kids es) : ∀ (m : Nat) (v : AV) (st : St) (ws : List AV), m ≤ kids.length → Own st 6 59 v ws → ws.length + m ≤ 1000000 →
    ∃ st' v' us, loopO (g35_L1 ind fl x) ([v, .int .i64 ((m : Int) - 1)], st) = some (0, [v'], st') ∧ All2 IsTodo ((kids.take m).reverse.map fun d => (d, ind, fl)) us ∧ Own st' 6 59 v' (ws ++ us) ∧ (v ≠ .nils ∧ v ≠ .es → v' ≠ .nils ∧ v' ≠ .es)
  | 0, v, st, ws, _, hI, _ => by
    refine ⟨st, v, [], ?_, rfl, by simpa using hI, id⟩
    rw [loopO_eq]
    simp [g35_L1]
  | m + 1, v, st, ws, hm, hI, hb => by
    have hlen := hk.all.len
    have hd : kids[m]? = some kids[m] := List.getElem?_eq_getElem (by omega)
    obtain ⟨u, hu, hdoc⟩ := hk.all.at hd
    have hge : (m : Int) ≥ 0 := by omega
    have hm1 : ((m + 1 : Nat) : Int) - 1 = (m : Int) := by omega
    have hw : IntKind.wrap .i64 ((m : Int) - 1) = (m : Int) - 1 := wrap_i64 (by omega) (by have := hx.1; omega)
    have hidx := fun (st : St) (K : AV → List Nat → Option (Sum Car (Nat × Car))) => hx.idx hu st K
    have htk : kids.take (m + 1) = kids.take m ++ [kids[m]] := List.take_succ_eq_append_getElem (by omega)
    generalize kids[m] = d at hdoc htk
    obtain ⟨k, s, n, ks⟩ := d
    have hdoc' := hdoc
    obtain ⟨y, es', rfl, r1, r2, r3, hy, hk'⟩ := hdoc
    have hroom : roomOk (ws.length + [AV.agg [.int .u8 k, .str s, .int .i64 n, y, .int .i64 ind, .bool fl]].length) ⟨.other, 6, 72, [], false, false⟩ = true := by
      simp only [roomOk, List.length_singleton, Bool.and_eq_true]
      exact ⟨Nat.ble_eq_true_of_le (by omega), rfl, Nat.ble_eq_true_of_le (by omega)⟩
    obtain ⟨v2, st2, x2, happ, hown, _, _⟩ := app_own (b := 72) hI (new := [.agg [.int .u8 k, .str s, .int .i64 n, y, .int .i64 ind, .bool fl]]) (by simp) hroom
    have hne : v2 ≠ .nils ∧ v2 ≠ .es := by
      rcases hown.2.2 with ⟨_, h⟩ | rfl | ⟨j, rfl, _⟩
      · simp at h
      · exact ⟨(by intro h; cases h), (by intro h; cases h)⟩
      · exact ⟨(by intro h; cases h), (by intro h; cases h)⟩
    obtain ⟨st', v', us, hrun, hus, hfin, hne'⟩ := push_loop ind fl hx hk m v2 st2 _ (by omega) hown (by rw [List.length_append]; simp; omega)
    refine ⟨st', v', .agg [.int .u8 k, .str s, .int .i64 n, y, .int .i64 ind, .bool fl] :: us, ?_, ?_, by simpa using hfin, fun _ => hne' hne⟩
    · have ht : takeO 4 true [.int .u8 k, .str s, .int .i64 n, y] = some (.agg [.int .u8 k, .str s, .int .i64 n, y]) := rfl
      rw [loopO_eq]
      simp only [g35_L1, unc_cons, asI_int, un0_nil, ifB_decide, hm1, if_pos hge, hidx, AV.cells, loadS_ip, ht, bindO_ok, unA_agg, asS_str, hy.asOne, hy.fit1, appS_of happ, letV_eq, hw]
      exact hrun
    · rw [htk]
      simp only [List.reverse_append, List.reverse_cons, List.reverse_nil, List.nil_append, List.singleton_append, List.map_cons]
      exact ⟨_, _, rfl, ⟨_, _, _, _, hdoc', rfl⟩, hus⟩
/-- A slice that is not nil. -/
def IsSn (z : Nat) (x : AV) (es : List AV) : Prop := es.length ≤ 9223372036854775807 ∧ (x = .sl z es .shut ∨ x = .sl z es .wide)
theorem IsSn.sl {z : Nat} {x : AV} {es : List AV} (h : IsSn z x es) : IsSl z x es := ⟨h.1, .inr h.2⟩
theorem slice_full {β : Type} {z : Nat} {x : AV} {es : List AV} (h : IsSn z x es) (K : AV → Option β) : sliceS z x none (some (es.length : Int)) (some (es.length : Int)) K = K (.sl z es .shut) := by
  have hz : z.beq z = true := Nat.beq_refl z
  have h1 : hiO (some (es.length : Int)) es.length 0 = some es.length := hiO_nat (Nat.le_refl _)
  have h2 : hiO (some (es.length : Int)) es.length es.length = some es.length := hiO_nat (Nat.le_refl _)
  have h3 : es.length.beq es.length = true := Nat.beq_refl _
  rcases h.2 with rfl | rfl <;> simp only [sliceS, sliceO, hz, h1, h2, hiO_none, h3, bindO_ok, List.take_length, List.drop_zero]
theorem slice_init {β : Type} {z n : Nat} {x : AV} {es : List AV} (h : IsSn z x es) (hn : n ≤ es.length) : ∃ x', IsSn z x' (es.take n) ∧ ∀ K : AV → Option β, sliceS z x none (some (n : Int)) none K = K x' := by
  have hz : z.beq z = true := Nat.beq_refl z
  have h2 : hiO (some (n : Int)) es.length es.length = some n := hiO_nat hn
  have hl : (es.take n).length ≤ 9223372036854775807 := by rw [List.length_take]; have := h.1; omega
  rcases h.2 with rfl | rfl
  · simp only [sliceS, sliceO, hz, h2, hiO_none]
    cases e : n.beq es.length with
    | true =>
      have := Nat.eq_of_beq_eq_true e
      subst this
      exact ⟨.sl z es .shut, ⟨hl, .inl (by simp)⟩, fun _ => rfl⟩
    | false => exact ⟨.sl z (es.take n) .wide, ⟨hl, .inr rfl⟩, fun _ => rfl⟩
  · simp only [sliceS, sliceO, hz, h2, hiO_none]
    cases e : n.beq es.length with
    | true => exact ⟨.sl z (es.take n) .wide, ⟨hl, .inr rfl⟩, fun _ => rfl⟩
    | false => exact ⟨.sl z (es.take n) .wide, ⟨hl, .inr rfl⟩, fun _ => rfl⟩
/-- The program's push. -/
theorem push_ok {f : Todo} {fv x : AV} {ws : List AV} (hx : IsSn 6 x ws) (hf : IsTodo f fv) (ind : Int) (fl : Bool) (kids : List Doc) (hk : ∃ k s n, f.1 = .mk k s n kids) (hb : ws.length + kids.length ≤ 1000000) :
    ∃ x' us, (orc vE).bare 35 [x, fv, .int .i64 ind, .bool fl] = some x' ∧ IsSn 6 x' (ws ++ us) ∧ All2 IsTodo (kids.reverse.map fun d => (d, ind, fl)) us := by
  obtain ⟨d, i0, b0⟩ := f
  obtain ⟨k, s, n, hd⟩ := hk
  dsimp only at hd
  subst hd
  obtain ⟨c0, c1, c2, c3, hdoc, rfl⟩ := hf
  obtain ⟨y, es', he, r1, r2, r3, hy, hk'⟩ := hdoc
  cases he
  have hlen := hk'.all.len
  have hw : IntKind.wrap .i64 ((es'.length : Int) - 1) = (es'.length : Int) - 1 := wrap_i64 (by omega) (by have := hy.1; omega)
  obtain ⟨st', v', us, hrun, hus, hfin, hne⟩ := push_loop ind fl hy hk' kids.length (.sl 6 ws .shut) (St.mk 0 0 Tr.leaf) ws (Nat.le_refl _) (Own.shut (Nat.le_refl _) 59 hx.1) hb
  rw [← hlen] at hrun
  rw [List.take_length] at hus
  have hsn : ∃ x', IsSn 6 x' (ws ++ us) ∧ ∀ K : AV → Option AV, frzS st' 0 v' K = K x' := by
    have hne := hne ⟨(by intro h; cases h), (by intro h; cases h)⟩
    rcases hfin with ⟨_, hl, ⟨rfl | rfl, _⟩ | rfl | ⟨j, rfl, _⟩⟩
    · exact absurd rfl hne.1
    · exact absurd rfl hne.2
    · exact ⟨.sl 6 (ws ++ us) .shut, ⟨hl, .inl rfl⟩, fun _ => rfl⟩
    · exact ⟨.sl 6 (ws ++ us) .wide, ⟨hl, .inr rfl⟩, fun _ => rfl⟩
  obtain ⟨x', hx', hfz⟩ := hsn
  refine ⟨x', us, bare_of rfl ((g35_eq _ _ _ _).trans ?_), hx', hus⟩
  simp only [g35, unA_agg, unc_cons, asI_int, asS_str, asB_bool, un0_nil, hy.asOne, hy.fit1, hx.sl.len, slice_full hx, hy.len, letV_eq, hw, hrun, bindO_ok, oneOf, hfz]
end Go.Proofs.YteajphhelkdjnaaDoor.Vm
/- Layouts: pop; the reference's kids. -/
set_option maxRecDepth 100000
set_option linter.unusedSimpArgs false
namespace Go.Proofs.YteajphhelkdjnaaDoor.Vm
open Go Go.VM Go.Proofs

theorem IsTodo.shape {f : Todo} {w : AV} (h : IsTodo f w) : ∃ k s n kids y es, f.1 = .mk k s n kids ∧ w = .agg [.int .u8 k, .str s, .int .i64 n, y, .int .i64 f.2.1, .bool f.2.2] ∧ IsSl 4 y es ∧ IsDocs kids es ∧ (0 ≤ k ∧ k ≤ 255) ∧ s.length ≤ 9223372036854775807 ∧ (-9223372036854775808 ≤ n ∧ n ≤ 9223372036854775807) := by
  obtain ⟨d, i0, b0⟩ := f
  obtain ⟨c0, c1, c2, c3, hdoc, rfl⟩ := h
  obtain ⟨k, s, n, kids⟩ := d
  obtain ⟨y, es', he, r1, r2, r3, hy, hk'⟩ := hdoc
  cases he
  exact ⟨k, s, n, kids, _, es', rfl, rfl, hy, hk', r1, r2, r3⟩
theorem fz_todo {f : Todo} {w : AV} (h : IsTodo f w) : Fz 2 w ∧ VM.bare w = true ∧ strip w = w := by
  obtain ⟨k, s, n, kids, y, es, _, rfl, hy, _⟩ := h.shape
  refine ⟨fz_agg fun c hc => ?_, ?_, rfl⟩
  · simp only [List.mem_cons, List.not_mem_nil, or_false] at hc
    rcases hc with rfl | rfl | rfl | rfl | rfl | rfl
    · exact fz_int _ _
    · exact fz_str _
    · exact fz_int _ _
    · exact fz_sl hy
    · exact fz_int _ _
    · exact fz_bool _
  · simp only [bare_agg, bares_cons, hy.bare]; rfl
theorem pop_ok {f : Todo} {w x : AV} {ws : List AV} (hx : IsSn 6 x (ws ++ [w])) (hf : IsTodo f w) : ∃ x', (orc vE).bare 34 [x] = some (.tup [w, x']) ∧ IsSn 6 x' ws := by
  have hfz := fz_todo hf
  have hl : (ws ++ [w]).length = ws.length + 1 := by simp
  have hmax := hx.1
  have hw : IntKind.wrap .i64 (((ws.length + 1 : Nat) : Int) - 1) = (ws.length : Int) := by rw [wrap_i64 (by omega) (by omega)]; omega
  have hlen : ∀ {β : Type} (K : Nat → Option β), lenS x K = K (ws.length + 1) := fun K => by rw [hx.sl.len, hl]
  have hidx := fun (st : St) (K : AV → List Nat → Option AV) => hx.sl.idx (k := ws.length) (v := w) (by simp) st K
  obtain ⟨x', hx', hsl⟩ := slice_init (β := AV) hx (n := ws.length) (by omega)
  have htake : (ws ++ [w]).take ws.length = ws := by simp
  rw [htake] at hx'
  refine ⟨x', bare_of rfl ((g34_eq _).trans ?_), hx'⟩
  have hb : VM.bare (.tup [w, x']) = true := by simp only [bare_tup, bares_cons, hfz.2.1, hx'.sl.bare]; rfl
  have hf3 : Fz 3 (.tup [w, x']) := fz_tup fun c hc => by
    simp only [List.mem_cons, List.not_mem_nil, or_false] at hc
    rcases hc with rfl | rfl
    · exact hfz.1
    · exact (fz_sl hx'.sl).mono (by omega)
  have hfr := fun (st : St) (K : AV → Option AV) => frz_of hf3 (by omega) hb st 0 K
  obtain ⟨k, s, n, kids, y, es, _, rfl, hy, _⟩ := hf.shape
  have ht : takeO 6 true [.int .u8 k, .str s, .int .i64 n, y, .int .i64 f.2.1, .bool f.2.2] = some (.agg [.int .u8 k, .str s, .int .i64 n, y, .int .i64 f.2.1, .bool f.2.2]) := rfl
  simp only [g34, hlen, letV_eq, hw, hidx, AV.cells, loadS_ip, ht, bindO_ok, unA_agg, unc_cons, asI_int, asS_str, asB_bool, un0_nil, hsl, hy.asOne, hfr]
end Go.Proofs.YteajphhelkdjnaaDoor.Vm
/- Layouts: whether a row fits: the reference. -/
set_option maxRecDepth 100000
set_option linter.unusedSimpArgs false
namespace Go.Proofs.YteajphhelkdjnaaDoor.Vm
open Go Go.VM Go.Proofs

def msr : List Todo → Nat
  | [] => 0
  | t :: l => cntD t.1 + msr l
mutual
def txtD : Doc → Nat
  | .mk _ s _ kids => s.length + txtDs kids
def txtDs : List Doc → Nat
  | [] => 0
  | d :: l => txtD d + txtDs l
end
def txt : List Todo → Nat
  | [] => 0
  | t :: l => txtD t.1 + txt l
def kidsT (ks : List Doc) (i : Int) (f : Bool) : List Todo := ks.map fun d => (d, i, f)
theorem msr_kids (ks : List Doc) (i : Int) (f : Bool) (l : List Todo) : msr (kidsT ks i f ++ l) = cntDs ks + msr l := by
  induction ks with
  | nil => simp [kidsT, cntDs]
  | cons d ks ih => simp only [kidsT, List.map_cons, List.cons_append, msr, cntDs] at ih ⊢; rw [ih]; omega
theorem txt_kids (ks : List Doc) (i : Int) (f : Bool) (l : List Todo) : txt (kidsT ks i f ++ l) = txtDs ks + txt l := by
  induction ks with
  | nil => simp [kidsT, txtDs]
  | cons d ks ih => simp only [kidsT, List.map_cons, List.cons_append, txt, txtDs] at ih ⊢; rw [ih]; omega
theorem len_msr : ∀ (l : List Todo), l.length ≤ msr l
  | [] => Nat.le_refl _
  | t :: l => by have := len_msr l; have := cnt_pos t.1; simp only [List.length_cons, msr]; omega
theorem len_cnts : ∀ (l : List Doc), l.length ≤ cntDs l
  | [] => Nat.le_refl _
  | t :: l => by have := len_cnts l; have := cnt_pos t; simp only [List.length_cons, cntDs]; omega
/-- Does a row fit? ('n': so many layouts at most.) -/
def fitF (w : Int) : Nat → List Todo → Int → Bool
  | 0, _, c => decide (c ≤ w)
  | _ + 1, [], c => decide (c ≤ w)
  | n + 1, (.mk k s _ kids, i, f) :: l, c =>
    if c > w then false
    else if k = 1 then fitF w n l (c + chars s)
    else if k = 2 ∨ k = 3 then (if f = false then true else fitF w n l (if k = 2 then c + 1 else c))
    else if k = 4 then true
    else fitF w n (kidsT kids i (f || k == 6) ++ l) c
end Go.Proofs.YteajphhelkdjnaaDoor.Vm
/- Layouts: laid out by the reference. -/
set_option maxRecDepth 100000
set_option linter.unusedSimpArgs false
namespace Go.Proofs.YteajphhelkdjnaaDoor.Vm
open Go Go.VM Go.Proofs

/-- A row, laid out from a column on. -/
def layF (w : Int) : Nat → List Todo → Int → List UInt8
  | 0, _, _ => []
  | _ + 1, [], _ => []
  | n + 1, (.mk k s m kids, i, f) :: l, c =>
    if k = 1 then s ++ layF w n l (c + chars s)
    else if k = 5 then layF w n (kidsT kids (i + m) f ++ l) c
    else if k = 6 then
      let flat := f || (!hardD (.mk k s m kids) && fitF w (msr (kidsT kids i true ++ l)) (kidsT kids i true ++ l) c)
      layF w n (kidsT kids i flat ++ l) c
    else if k = 7 then layF w n (kidsT kids i f ++ l) c
    else if f = true ∧ k ≠ 4 then (if k = 2 then 32 :: layF w n l (c + 1) else layF w n l c)
    else 10 :: (List.replicate i.toNat 32 ++ layF w n l i)
/-- May a layout be? (Its numbers.) -/
def nokD (k m : Int) : Bool := (k == 1 || k == 2 || k == 3 || k == 4 || k == 6 || k == 7) && m == 0 || k == 5 && decide (0 ≤ m) && decide (m ≤ 200)
mutual
def numsD : Doc → Bool
  | .mk k _ m kids => nokD k m && numsDs kids
def numsDs : List Doc → Bool
  | [] => true
  | d :: l => numsD d && numsDs l
end
def numsT : List Todo → Bool
  | [] => true
  | t :: l => numsD t.1 && numsT l
theorem numsT_kids {ks : List Doc} {i : Int} {f : Bool} {l : List Todo} (h1 : numsDs ks = true) (h2 : numsT l = true) : numsT (kidsT ks i f ++ l) = true := by
  induction ks with
  | nil => simpa [kidsT] using h2
  | cons d ks ih =>
    simp only [numsDs, Bool.and_eq_true] at h1
    have := ih h1.2
    simp only [kidsT, List.map_cons, List.cons_append, numsT, Bool.and_eq_true] at this ⊢
    exact ⟨h1.1, this⟩
/-- Indents within a bound. -/
def Ind (I : Int) (l : List Todo) : Prop := ∀ t ∈ l, 0 ≤ t.2.1 ∧ t.2.1 ≤ I
theorem Ind_kids {I J i : Int} {ks : List Doc} {f : Bool} {l : List Todo} (h : Ind I l) (hi : 0 ≤ i) (hi2 : i ≤ J) (hJ : I ≤ J) : Ind J (kidsT ks i f ++ l) := by
  intro t ht
  rcases List.mem_append.1 ht with ht | ht
  · obtain ⟨d, _, rfl⟩ := List.mem_map.1 ht
    exact ⟨hi, hi2⟩
  · have := h t ht; omega
end Go.Proofs.YteajphhelkdjnaaDoor.Vm
/- Layouts: whether a row fits: the program. -/
set_option maxRecDepth 100000
set_option linter.unusedSimpArgs false
namespace Go.Proofs.YteajphhelkdjnaaDoor.Vm
open Go Go.VM Go.Proofs

/-- May a layout be, but for its Kids? -/
def okD (k : Int) (s : List UInt8) (m : Int) (none : Bool) : Bool :=
  if k = 1 then m == 0 && none && validS s && !(s.any fun b => b == 10) && !(s.any fun b => b == 13)
  else if k = 2 ∨ k = 3 ∨ k = 4 then m == 0 && none && s == []
  else if k = 5 then decide (0 ≤ m) && decide (m ≤ 200) && s == []
  else if k = 6 ∨ k = 7 then m == 0 && s == []
  else false
mutual
def mayD : Doc → Bool
  | .mk k s m kids => okD k s m kids.isEmpty && mayDs kids
def mayDs : List Doc → Bool
  | [] => true
  | d :: l => mayD d && mayDs l
end
def mayT : List Todo → Bool
  | [] => true
  | t :: l => mayD t.1 && mayT l
theorem okD_nok {k : Int} {s : List UInt8} {m : Int} {b : Bool} (h : okD k s m b = true) : nokD k m = true := by
  unfold okD at h
  unfold nokD
  simp only [Bool.or_eq_true, Bool.and_eq_true, beq_iff_eq, decide_eq_true_eq]
  split at h
  · simp only [Bool.and_eq_true, beq_iff_eq] at h; omega
  · split at h
    · simp only [Bool.and_eq_true, beq_iff_eq] at h; omega
    · split at h
      · simp only [Bool.and_eq_true, decide_eq_true_eq] at h; omega
      · split at h
        · simp only [Bool.and_eq_true, beq_iff_eq] at h; omega
        · cases h
mutual
theorem may_nums : ∀ (d : Doc), mayD d = true → numsD d = true
  | .mk k s m kids, h => by
    simp only [mayD, Bool.and_eq_true] at h
    simp only [numsD, okD_nok h.1, may_numss kids h.2, Bool.and_self]
theorem may_numss : ∀ (l : List Doc), mayDs l = true → numsDs l = true
  | [], _ => rfl
  | d :: l, h => by
    simp only [mayDs, Bool.and_eq_true] at h
    simp only [numsDs, may_nums d h.1, may_numss l h.2, Bool.and_self]
end
theorem mayT_kids {ks : List Doc} {i : Int} {f : Bool} {l : List Todo} (h1 : mayDs ks = true) (h2 : mayT l = true) : mayT (kidsT ks i f ++ l) = true := by
  induction ks with
  | nil => simpa [kidsT] using h2
  | cons d ks ih =>
    simp only [mayDs, Bool.and_eq_true] at h1
    have := ih h1.2
    simp only [kidsT, List.map_cons, List.cons_append, mayT, Bool.and_eq_true] at this ⊢
    exact ⟨h1.1, this⟩
theorem All2.snoc {α : Type} {R : α → AV → Prop} {l : List α} {a : α} {ws : List AV} (h : All2 R (l ++ [a]) ws) : ∃ vs v, ws = vs ++ [v] ∧ All2 R l vs ∧ R a v := by
  induction l generalizing ws with
  | nil =>
    obtain ⟨v, vs, rfl, h1, h⟩ := h
    have h : vs = [] := h
    subst h
    exact ⟨[], v, rfl, rfl, h1⟩
  | cons b l ih =>
    obtain ⟨v, vs, rfl, h1, h⟩ := h
    obtain ⟨us, u, rfl, h2, h3⟩ := ih h
    exact ⟨v :: us, u, rfl, ⟨v, us, rfl, h1, h2⟩, h3⟩
theorem rev_kids (ks : List Doc) (i : Int) (f : Bool) (l : List Todo) : (kidsT ks i f ++ l).reverse = l.reverse ++ ks.reverse.map fun d => (d, i, f) := by
  simp [kidsT, List.map_reverse]
theorem call_pop {f : Todo} {w x : AV} {ws : List AV} (hx : IsSn 6 x (ws ++ [w])) (hf : IsTodo f w) : ∃ x', IsSn 6 x' ws ∧ ∀ {β : Type} (st : St) (K : Kv β), callS (orc vE) 34 [x] st K = K (.tup [w, x']) st q0 := by
  obtain ⟨x', h1, h2⟩ := pop_ok hx hf
  exact ⟨x', h2, fun st K => callS_bare st K rfl (by simp only [List.map_cons, List.map_nil, hx.sl.strip]) (by simp only [bares_cons, hx.sl.bare]; rfl) h1⟩
theorem call_push {f : Todo} {fv x : AV} {ws : List AV} (hx : IsSn 6 x ws) (hf : IsTodo f fv) (ind : Int) (fl : Bool) (kids : List Doc) (hk : ∃ k s n, f.1 = .mk k s n kids) (hb : ws.length + kids.length ≤ 1000000) :
    ∃ x' us, IsSn 6 x' (ws ++ us) ∧ All2 IsTodo (kids.reverse.map fun d => (d, ind, fl)) us ∧ ∀ {β : Type} (st : St) (K : Kv β), callS (orc vE) 35 [x, fv, .int .i64 ind, .bool fl] st K = K x' st q0 := by
  obtain ⟨x', us, h1, h2, h3⟩ := push_ok hx hf ind fl kids hk hb
  exact ⟨x', us, h2, h3, fun st K => callS_bare st K rfl (by simp only [List.map_cons, List.map_nil, hx.sl.strip, (fz_todo hf).2.2]; rfl) (by simp only [bares_cons, hx.sl.bare, (fz_todo hf).2.1]; rfl) h1⟩
theorem fits_loop (w : Int) (hw : -1000000000 ≤ w ∧ w ≤ 1000000000) {p : Nat} {a0 a1 a2 : AV} : ∀ (n : Nat) (l : List Todo) (x : AV) (ws : List AV) (c : Int) (b : Bool) (st : St), msr l ≤ n → n ≤ 1000000 → IsSn 6 x ws → All2 IsTodo l.reverse ws → mayT l = true → 0 ≤ c → c + txt l + msr l ≤ 1000000000 → st.ro ≤ st.h →
    st.get p = .ok (.cells 56 [a0, a1, a2, .int .i64 w]) →
    ∃ k c' b' st', loopO (w36_L1 (.mp p 0)) ([.bool b, .int .i64 c, x], st) = some (k, [.bool b', .int .i64 c'], st') ∧ (match k with | 0 => decide (c' ≤ w) | _ + 1 => b') = fitF w n l c ∧ Keeps st st' (fun _ => False)
  | n, [], x, ws, c, b, st, hm, hn, hx, hl, hd, h0, hc, hro, hp => by
    have hl : ws = [] := hl
    subst hl
    refine ⟨0, c, b, st, ?_, by cases n <;> rfl, Keeps.refl _ _⟩
    rw [loopO_inr]
    simp [w36_L1, hx.sl.len]
  | 0, t :: l, x, ws, c, b, st, hm, hn, hx, hl, hd, h0, hc, hro, hp => by
    have := cnt_pos t.1
    simp only [msr] at hm
    omega
  | n + 1, (d, i, f) :: l, x, ws, c, b, st, hm, hn, hx, hl, hd, h0, hc, hro, hp => by
    rw [List.reverse_cons] at hl
    obtain ⟨vs, v, rfl, hl2, ht⟩ := hl.snoc
    have hlen : vs.length = l.length := by rw [hl2.len, List.length_reverse]
    obtain ⟨x', hx', hpop⟩ := call_pop hx ht
    obtain ⟨k, s, m, kids, y, es, e, rfl, hy, hk, r1, r2, r3⟩ := ht.shape
    dsimp only at e
    subst e
    have hpos : ((vs.length + 1 : Nat) : Int) > 0 := by omega
    have hxl : ∀ {β : Type} (K : Nat → Option β), lenS x K = K (vs.length + 1) := fun K => by rw [hx.sl.len]; simp
    simp only [mayT, mayD, Bool.and_eq_true] at hd
    obtain ⟨⟨hok, hks⟩, hls⟩ := hd
    simp only [msr, cntD, txt, txtD] at hm hc
    have ldw0 := fun {β : Type} (K : AV → List Nat → Option β) => loadS_mp hp 1 false 3 K
    have ldw : ∀ {β : Type} (K : AV → List Nat → Option β), loadS 1 false (.mp p 3) st K = K (.int .i64 w) [p] := fun K => by rw [ldw0]; rfl
    by_cases hcw : c > w
    · refine ⟨0, c, b, st, ?_, by simp only [fitF, if_pos hcw]; exact decide_eq_false (by omega), Keeps.refl _ _⟩
      rw [loopO_inr]
      simp only [w36_L1, unc_cons, asB_bool, asI_int, un0_nil, hxl, ifB_decide, if_pos hpos, notNil, chk_true, fldA_mp, Nat.zero_add, ldw, bindO_ok, if_neg (show ¬ c ≤ w from by omega)]
    have hcw' : c ≤ w := by omega
    have hcwd : decide (c ≤ w) = true := decide_eq_true hcw'
    obtain ⟨st2, hg, hkeep, hh, fx, hst⟩ := local_var (O := orc vE) (st := st) (t := 59) (z := 6) (old := [.int .u8 0, .str [], .int .i64 0, .nils, .int .i64 0, .bool false]) (cs := [.int .u8 k, .str s, .int .i64 m, y, .int .i64 i, .bool f]) (.agg [.int .u8 k, .str s, .int .i64 m, y, .int .i64 i, .bool f]) rfl rfl hro
    have hst1 := fun {β : Type} (K : Kv β) => hst K
    have hro2 : st2.ro ≤ st2.h := by rw [hkeep.ro, hh]; omega
    have hp2 := hkeep.old p _ (fun h => h) hp
    have ht6 : takeO 6 true [.int .u8 k, .str s, .int .i64 m, y, .int .i64 i, .bool f] = some (.agg [.int .u8 k, .str s, .int .i64 m, y, .int .i64 i, .bool f]) := rfl
    have ld := fun {β : Type} (o : Nat) (K : AV → List Nat → Option β) => loadS_mp hg 1 false o K
    have ld6 := fun {β : Type} (K : AV → List Nat → Option β) => loadS_mp hg 6 true 0 K
    have hw1 : IntKind.wrap .i64 (c + 1) = c + 1 := wrap_i64 (by omega) (by omega)
    by_cases k1 : k = 1
    · have hval : validS s = true := by
        subst k1
        simp only [okD, if_true, Bool.and_eq_true] at hok
        exact hok.1.1.2
      have hch : ∀ {β : Type} (K : Kv β), planS (orc vE) (primP (Prim.lib libRunes) [.str s]) st2 K = K (.int .i64 (chars s : Int)) st2 q0 := fun K => by
        rw [← runes_chars hval]; exact planS_lib (libRunes_ok (by omega)) st2 K
      have hcl := chars_le s
      have hwc : IntKind.wrap .i64 (c + (chars s : Int)) = c + chars s := wrap_i64 (by omega) (by omega)
      obtain ⟨k', c', b', st', hrun, hres, hke⟩ := fits_loop w hw n l x' vs (c + chars s) b st2 (by omega) (by omega) hx' hl2 hls (by omega) (by omega) hro2 hp2
      refine ⟨k', c', b', st', ?_, by rw [hres]; simp only [fitF, if_neg hcw, if_pos k1], hkeep.trans hke⟩
      rw [loopO_inl (s' := ([.bool b, .int .i64 (c + chars s), x'], st2))]
      · exact hrun
      · simp only [w36_L1, unc_cons, asB_bool, asI_int, un0_nil, hxl, ifB_decide, notNil, chk_true, fldA_mp, Nat.zero_add, ldw, letSt_eq, hpop, unT_tup, nthS_zero, nthS_one, unA_agg, asS_str, hy.asOne, hst, hst1, ld, List.drop_zero, List.drop_succ_cons, takeO_one, bindO_ok, ifB_beq, onSum_inl, onSum_inr, letV_eq, ifB_true, ifB_false, if_pos hpos, if_pos hcw', if_pos k1, hch, hwc]
    by_cases k2 : k = 2 ∨ k = 3
    · by_cases hf : f = false
      · refine ⟨1, c, true, st2, ?_, by simp only [fitF, if_neg hcw, if_neg k1, if_pos k2, if_pos hf], hkeep⟩
        rw [loopO_inr]
        subst hf
        rcases k2 with rfl | rfl
        · simp only [w36_L1, unc_cons, asB_bool, asI_int, un0_nil, hxl, ifB_decide, notNil, chk_true, fldA_mp, Nat.zero_add, ldw, letSt_eq, hpop, unT_tup, nthS_zero, nthS_one, unA_agg, asS_str, hy.asOne, hst, hst1, ld, List.drop_zero, List.drop_succ_cons, takeO_one, bindO_ok, ifB_beq, onSum_inl, onSum_inr, letV_eq, ifB_true, ifB_false, if_pos hpos, if_pos hcw', if_true, if_neg k1, Bool.not_false, beq_self_eq_true]
        · simp only [w36_L1, unc_cons, asB_bool, asI_int, un0_nil, hxl, ifB_decide, notNil, chk_true, fldA_mp, Nat.zero_add, ldw, letSt_eq, hpop, unT_tup, nthS_zero, nthS_one, unA_agg, asS_str, hy.asOne, hst, hst1, ld, List.drop_zero, List.drop_succ_cons, takeO_one, bindO_ok, ifB_beq, onSum_inl, onSum_inr, letV_eq, ifB_true, ifB_false, if_pos hpos, if_pos hcw', if_true, if_neg k1, Bool.not_false, beq_self_eq_true, show ¬ (3 : Int) = 2 from by omega, if_false]
      · have hf : f = true := by simpa using hf
        subst hf
        obtain ⟨k', c', b', st', hrun, hres, hke⟩ := fits_loop w hw n l x' vs (if k = 2 then c + 1 else c) b st2 (by omega) (by omega) hx' hl2 hls (by split <;> omega) (by split <;> omega) hro2 hp2
        refine ⟨k', c', b', st', ?_, by rw [hres]; simp only [fitF, if_neg hcw, if_neg k1, if_pos k2, if_neg hf], hkeep.trans hke⟩
        rw [loopO_inl (s' := ([.bool b, .int .i64 (if k = 2 then c + 1 else c), x'], st2))]
        · exact hrun
        · rcases k2 with rfl | rfl
          · simp only [w36_L1, unc_cons, asB_bool, asI_int, un0_nil, hxl, ifB_decide, notNil, chk_true, fldA_mp, Nat.zero_add, ldw, letSt_eq, hpop, unT_tup, nthS_zero, nthS_one, unA_agg, asS_str, hy.asOne, hst, hst1, ld, List.drop_zero, List.drop_succ_cons, takeO_one, bindO_ok, ifB_beq, onSum_inl, onSum_inr, letV_eq, ifB_true, ifB_false, if_pos hpos, if_pos hcw', if_true, if_neg k1, Bool.not_true, beq_self_eq_true, hw1, show ((2 : Int) == 4) = false from rfl]
          · simp only [w36_L1, unc_cons, asB_bool, asI_int, un0_nil, hxl, ifB_decide, notNil, chk_true, fldA_mp, Nat.zero_add, ldw, letSt_eq, hpop, unT_tup, nthS_zero, nthS_one, unA_agg, asS_str, hy.asOne, hst, hst1, ld, List.drop_zero, List.drop_succ_cons, takeO_one, bindO_ok, ifB_beq, onSum_inl, onSum_inr, letV_eq, ifB_true, ifB_false, if_pos hpos, if_pos hcw', if_true, if_neg k1, Bool.not_true, beq_self_eq_true, show ¬ (3 : Int) = 2 from by omega, if_false, show ((3 : Int) == 4) = false from rfl]
    have k2' : ¬ k = 2 ∧ ¬ k = 3 := by omega
    have e2 : (k == 2) = false := beq_false_of_ne k2'.1
    have e3 : (k == 3) = false := beq_false_of_ne k2'.2
    by_cases k4 : k = 4
    · refine ⟨1, c, true, st2, ?_, by simp only [fitF, if_neg hcw, if_neg k1, if_neg k2, if_pos k4], hkeep⟩
      rw [loopO_inr]
      subst k4
      cases f <;> simp only [w36_L1, unc_cons, asB_bool, asI_int, un0_nil, hxl, ifB_decide, notNil, chk_true, fldA_mp, Nat.zero_add, ldw, letSt_eq, hpop, unT_tup, nthS_zero, nthS_one, unA_agg, asS_str, hy.asOne, hst, hst1, ld, List.drop_zero, List.drop_succ_cons, takeO_one, bindO_ok, ifB_beq, onSum_inl, onSum_inr, letV_eq, ifB_true, ifB_false, if_pos hpos, if_pos hcw', if_neg k1, if_neg k2'.1, if_neg k2'.2, if_true, Bool.not_true, Bool.not_false, beq_self_eq_true]
    have e4 : (k == 4) = false := beq_false_of_ne k4
    have hlm := len_msr l
    have hkm := len_cnts kids
    obtain ⟨x2, us, hx2, hus, hpush⟩ := call_push hx' ht i (f || k == 6) kids ⟨k, s, m, rfl⟩ (by omega)
    obtain ⟨k', c', b', st', hrun, hres, hke⟩ := fits_loop w hw n (kidsT kids i (f || k == 6) ++ l) x2 (vs ++ us) c b st2 (by rw [msr_kids]; omega) (by omega) hx2 (by rw [rev_kids]; exact All2.append hl2 hus) (mayT_kids hks hls) h0 (by rw [txt_kids, msr_kids]; omega) hro2 hp2
    refine ⟨k', c', b', st', ?_, by rw [hres]; simp only [fitF, if_neg hcw, if_neg k1, if_neg k2, if_neg k4], hkeep.trans hke⟩
    rw [loopO_inl (s' := ([.bool b, .int .i64 c, x2], st2))]
    · exact hrun
    · cases f with
      | true =>
        rw [Bool.true_or] at hpush
        simp only [w36_L1, unc_cons, asB_bool, asI_int, un0_nil, hxl, ifB_decide, notNil, chk_true, fldA_mp, Nat.zero_add, ldw, letSt_eq, hpop, unT_tup, nthS_zero, nthS_one, unA_agg, asS_str, hy.asOne, hst, hst1, ld, List.drop_zero, List.drop_succ_cons, takeO_one, bindO_ok, ifB_beq, onSum_inl, onSum_inr, letV_eq, ifB_true, ifB_false, if_pos hpos, if_pos hcw', if_neg k1, if_neg k2'.1, if_neg k2'.2, e4, ld6, ht6, hpush]
      | false =>
        rw [Bool.false_or] at hpush
        simp only [w36_L1, unc_cons, asB_bool, asI_int, un0_nil, hxl, ifB_decide, notNil, chk_true, fldA_mp, Nat.zero_add, ldw, letSt_eq, hpop, unT_tup, nthS_zero, nthS_one, unA_agg, asS_str, hy.asOne, hst, hst1, ld, List.drop_zero, List.drop_succ_cons, takeO_one, bindO_ok, ifB_beq, onSum_inl, onSum_inr, letV_eq, ifB_true, ifB_false, if_pos hpos, if_pos hcw', if_neg k1, if_neg k2'.1, if_neg k2'.2, e4, ld6, ht6, hpush]
theorem fits_ok {l : List Todo} {x : AV} {ws : List AV} {c w : Int} {p : Nat} {a0 a1 : AV} {st : St} (hw : -1000000000 ≤ w ∧ w ≤ 1000000000) (hm : msr l ≤ 1000000) (hx : IsSn 6 x ws) (hl : All2 IsTodo l.reverse ws) (hd : mayT l = true) (h0 : 0 ≤ c) (hc : c + txt l + msr l ≤ 1000000000) (hro : st.ro ≤ st.h)
    (hp : st.get p = .ok (.cells 56 [a0, a1, .int .i64 c, .int .i64 w])) :
    ∃ st', Keeps st st' (fun _ => False) ∧ (orc vE).wide 36 [.mp p 0, x] st = some (.bool (fitF w (msr l) l c), st') := by
  obtain ⟨k, c', b', st', hrun, hres, hke⟩ := fits_loop w hw (msr l) l x ws c false st (Nat.le_refl _) hm hx hl hd h0 hc hro hp
  refine ⟨st', hke, wide_of ((w36_eq _ _ _).trans ?_)⟩
  have hp' := hke.old p _ (fun h => h) hp
  have ld := fun {β : Type} (o : Nat) (K : AV → List Nat → Option β) => loadS_mp hp 1 false o K
  have ld' := fun {β : Type} (o : Nat) (K : AV → List Nat → Option β) => loadS_mp hp' 1 false o K
  cases k with
  | zero => simp only [w36, notNil, chk_true, fldA_mp, Nat.zero_add, ld, List.drop_succ_cons, List.drop_zero, takeO_one, bindO_ok, asI_int, hrun, unc_cons, asB_bool, un0_nil, sel2_zero, ld']; rw [← hres]
  | succ k => simp only [w36, notNil, chk_true, fldA_mp, Nat.zero_add, ld, List.drop_succ_cons, List.drop_zero, takeO_one, bindO_ok, asI_int, hrun, unc_cons, asB_bool, un0_nil, sel2_succ, ld']; rw [← hres]
end Go.Proofs.YteajphhelkdjnaaDoor.Vm
/- Layouts: laid out by the program. -/
set_option maxRecDepth 100000
set_option linter.unusedSimpArgs false
namespace Go.Proofs.YteajphhelkdjnaaDoor.Vm
open Go Go.VM Go.Proofs

/-- The writer: what is written, the column, the width. -/
def IsW (st : St) (p : Nat) (c w : Int) (out : List UInt8) : Prop := IsB st 56 5 p [] [.int .i64 c, .int .i64 w] out
theorem IsW.cells {st : St} {p : Nat} {c w : Int} {out : List UInt8} (h : IsW st p c w out) : ∃ a0 a1, st.get p = .ok (.cells 56 [a0, a1, .int .i64 c, .int .i64 w]) ∧ st.ro ≤ p := by
  obtain ⟨a0, a1, h1, _, _, h4⟩ := h
  exact ⟨a0, a1, h1, h4⟩
/-- The column is set. -/
theorem IsW.set {st : St} {p : Nat} {c w : Int} {out : List UInt8} (h : IsW st p c w out) (c' : Int) :
    ∃ st', IsW st' p c' w out ∧ KeepsB st st' 5 p ∧ ∃ fx, ∀ {β : Type} (K : Kv β), storeS (orc vE) 1 (.mp p 2) (.int .i64 c') [.int .i64 c'] st K = K VM.undef st' fx := by
  obtain ⟨a0, a1, h1, h2, h3, h4⟩ := h
  refine ⟨st.put p (.cells 56 [a0, a1, .int .i64 c', .int .i64 w]), ⟨a0, a1, St.get_put_same (St.get_ok.1 h1).1, h2, h3.put h1, h4⟩, KeepsB.put, ⟨[p], .wrote p (.cells 56 [a0, a1, .int .i64 c', .int .i64 w])⟩, fun K => ?_⟩
  exact (storeS_at (O := orc vE) (z := 1) (off := 2) (v := .int .i64 c') (cs := [.int .i64 c']) h1 rfl (by simp) h4 K).trans rfl
theorem write_ok {st : St} {p : Nat} {c w : Int} {out s : List UInt8} (h : IsW st p c w out) (hlen : out.length + s.length ≤ 70368744177664) (hro : st.ro ≤ st.h) :
    ∃ st', IsW st' p c w (out ++ s) ∧ KeepsB st st' 5 p ∧ ∃ fx, ∀ {β : Type} (K : Kv β), callS (orc vE) 44 [.mp p 0, .str s] st K = K (.tup [.int .i64 (s.length : Int), .nili]) st' fx := by
  obtain ⟨st', h1, h2, h3⟩ := bWrite_ok (O := orc vE) (L := [(53, 2, 0), (54, 2, 0), (55, 4, 0), (56, 4, 0)]) h rfl hlen hro
  exact ⟨st', h2, h3, _, fun K => callS_wide K rfl rfl (wide_of ((w44_eq _ _ _).trans h1))⟩
theorem text_ok {st : St} {p : Nat} {c w : Int} {out s : List UInt8} (h : IsW st p c w out) (hv : validS s = true) (hlen : out.length + s.length ≤ 70368744177664) (hro : st.ro ≤ st.h) (h0 : 0 ≤ c) (hc : c ≤ 1000000000000) :
    ∃ st', IsW st' p (c + chars s) w (out ++ s) ∧ KeepsB st st' 5 p ∧ ∃ fx, ∀ {β : Type} (K : Kv β), callS (orc vE) 32 [.mp p 0, .str s] st K = K (.tup []) st' fx := by
  obtain ⟨st2, h2, k2, fx, hw⟩ := write_ok h hlen hro
  obtain ⟨a0, a1, hg, hr⟩ := h2.cells
  obtain ⟨st3, h3, k3, fx3, hs⟩ := h2.set (c + chars s)
  have hcl := chars_le s
  have ld := fun {β : Type} (K : AV → List Nat → Option β) => loadS_mp hg 1 false 2 K
  have hch : ∀ {β : Type} (K : Kv β), planS (orc vE) (primP (Prim.lib libRunes) [.str s]) st2 K = K (.int .i64 (chars s : Int)) st2 q0 := fun K => by
    rw [← runes_chars hv]; exact planS_lib (libRunes_ok (by omega)) st2 K
  have hwc : IntKind.wrap .i64 (c + (chars s : Int)) = c + chars s := wrap_i64 (by omega) (by omega)
  refine ⟨st3, h3, k2.trans k3, _, fun K => callS_wide K rfl rfl (wide_of ((w32_eq _ _ _).trans ?_))⟩
  simp only [w32, asS_str, notNil, chk_true, fldA_mp, Nat.zero_add, hw, ld, List.drop_succ_cons, List.drop_zero, takeO_one, bindO_ok, asI_int, hch, apart_kept, Bool.and_self, letV_eq, hwc, hs]
theorem end_ok {st : St} {p : Nat} {c w : Int} {out : List UInt8} (h : IsW st p c w out) (ind : Nat) (hi : ind ≤ 1000000) (hlen : out.length + (1 + ind) ≤ 70368744177664) (hro : st.ro ≤ st.h) :
    ∃ st', IsW st' p (ind : Int) w (out ++ 10 :: List.replicate ind 32) ∧ KeepsB st st' 5 p ∧ ∃ fx, ∀ {β : Type} (K : Kv β), callS (orc vE) 33 [.mp p 0, .int .i64 (ind : Int)] st K = K (.tup []) st' fx := by
  obtain ⟨st2, h2, k2, fx, hw⟩ := write_ok (s := 10 :: List.replicate ind 32) h (by simp only [List.length_cons, List.length_replicate]; omega) hro
  obtain ⟨st3, h3, k3, fx3, hs⟩ := h2.set (ind : Int)
  have hrep : ∀ {β : Type} (K : Kv β), planS (orc vE) (primP (Prim.lib libRepeat) [.str [32], .int .i64 (ind : Int)]) st K = K (.str (List.replicate ind 32)) st q0 := fun K => by
    rw [← repeatL_one]; exact planS_lib (libRepeat_ok (by simp only [List.length_singleton]; omega) (by omega)) st K
  have hb : Nat.ble (1 + (List.replicate ind (32 : UInt8)).length) 9223372036854775807 = true := Nat.ble_eq_true_of_le (by rw [List.length_replicate]; omega)
  refine ⟨st3, h3, k2.trans k3, _, fun K => callS_wide K rfl rfl (wide_of ((w33_eq _ _ _).trans ?_))⟩
  simp only [w33, asI_int, notNil, chk_true, fldA_mp, Nat.zero_add, hrep, asS_str, apart_kept, Bool.and_self, hb, letV_eq, hw, hs]
/-- The writer at the end. -/
def WF (st : St) (p : Nat) (c w : Int) (out : List UInt8) : Prop := IsW st p c w out ∧ out.length ≤ 70000000000000
theorem wlay_loop (w : Int) (hw : -1000000000 ≤ w ∧ w ≤ 1000000000) {p : Nat} : ∀ (n : Nat) (l : List Todo) (x : AV) (ws : List AV) (c I : Int) (out : List UInt8) (st : St), msr l ≤ n → n ≤ 1000000 → IsSn 6 x ws → All2 IsTodo l.reverse ws → mayT l = true → 0 ≤ c → c + txt l + msr l ≤ 1000000000 → 0 ≤ I → Ind I l → I + 200 * msr l + txt l ≤ 1000000 →
    out.length + txt l + 1000002 * msr l ≤ 70000000000000 → st.ro ≤ st.h → IsW st p c w out →
    ∃ st' c', loopO (w23_L1 (.mp p 0)) ([x], st) = some (0, [], st') ∧ WF st' p c' w (out ++ layF w n l c)
  | n, [], x, ws, c, I, out, st, hm, hn, hx, hl, hd, h0, hc, hI0, hI, hI2, ho, hro, hp => by
    have hl : ws = [] := hl
    subst hl
    have e : layF w n [] c = [] := by cases n <;> rfl
    refine ⟨st, c, ?_, by rw [e, List.append_nil]; exact ⟨hp, by omega⟩⟩
    rw [loopO_inr]
    simp [w23_L1, hx.sl.len]
  | 0, t :: l, x, ws, c, I, out, st, hm, hn, hx, hl, hd, h0, hc, hI0, hI, hI2, ho, hro, hp => by
    have := cnt_pos t.1
    simp only [msr] at hm
    omega
  | n + 1, (d, i, f) :: l, x, ws, c, I, out, st, hm, hn, hx, hl, hd, h0, hc, hI0, hI, hI2, ho, hro, hp => by
    rw [List.reverse_cons] at hl
    obtain ⟨vs, v, rfl, hl2, ht⟩ := hl.snoc
    have hlen : vs.length = l.length := by rw [hl2.len, List.length_reverse]
    obtain ⟨x', hx', hpop⟩ := call_pop hx ht
    obtain ⟨k, s, m, kids, y, es, e, rfl, hy, hk, r1, r2, r3⟩ := ht.shape
    dsimp only at e
    subst e
    have hpos : ((vs.length + 1 : Nat) : Int) > 0 := by omega
    have hxl : ∀ {β : Type} (K : Nat → Option β), lenS x K = K (vs.length + 1) := fun K => by rw [hx.sl.len]; simp
    simp only [mayT, mayD, Bool.and_eq_true] at hd
    obtain ⟨⟨hok, hks⟩, hls⟩ := hd
    have hnok := okD_nok hok
    simp only [nokD, Bool.or_eq_true, Bool.and_eq_true, beq_iff_eq, decide_eq_true_eq] at hnok
    have hIi := hI _ (List.mem_cons_self)
    dsimp only at hIi
    have hIl : Ind I l := fun t ht => hI t (List.mem_cons_of_mem _ ht)
    simp only [msr, cntD, txt, txtD] at hm hc hI2 ho
    obtain ⟨st2, hg, hkeep, hh, fx, hst⟩ := local_var (O := orc vE) (st := st) (t := 59) (z := 6) (old := [.int .u8 0, .str [], .int .i64 0, .nils, .int .i64 0, .bool false]) (cs := [.int .u8 k, .str s, .int .i64 m, y, .int .i64 i, .bool f]) (.agg [.int .u8 k, .str s, .int .i64 m, y, .int .i64 i, .bool f]) rfl rfl hro
    have hst1 := fun {β : Type} (K : Kv β) => hst K
    have hro2 : st2.ro ≤ st2.h := by rw [hkeep.ro, hh]; omega
    have hp2 : IsW st2 p c w out := hp.keep hkeep
    obtain ⟨b0, b1, hpc, _⟩ := hp2.cells
    have ht6 : takeO 6 true [.int .u8 k, .str s, .int .i64 m, y, .int .i64 i, .bool f] = some (.agg [.int .u8 k, .str s, .int .i64 m, y, .int .i64 i, .bool f]) := rfl
    have ht4 : takeO 4 true [.int .u8 k, .str s, .int .i64 m, y, .int .i64 i, .bool f] = some (.agg [.int .u8 k, .str s, .int .i64 m, y]) := rfl
    have ld := fun {β : Type} (o : Nat) (K : AV → List Nat → Option β) => loadS_mp hg 1 false o K
    have ld6 := fun {β : Type} (K : AV → List Nat → Option β) => loadS_mp hg 6 true 0 K
    have ld4 := fun {β : Type} (K : AV → List Nat → Option β) => loadS_mp hg 4 true 0 K
    have hlm := len_msr l
    have hkm := len_cnts kids
    by_cases k1 : k = 1
    · have hval : validS s = true := by
        subst k1
        simp only [okD, if_true, Bool.and_eq_true] at hok
        exact hok.1.1.2
      have hcl := chars_le s
      obtain ⟨st3, hp3, hk3, fx3, htext⟩ := text_ok (s := s) hp2 hval (by omega) hro2 h0 (by omega)
      obtain ⟨st', c', hrun, hW⟩ := wlay_loop w hw n l x' vs (c + chars s) I (out ++ s) st3 (by omega) (by omega) hx' hl2 hls (by omega) (by omega) hI0 hIl (by omega) (by rw [List.length_append]; omega) (by have := hk3.ro; have := hk3.h; omega) hp3
      refine ⟨st', c', ?_, by simp only [layF, if_pos k1]; rw [← List.append_assoc]; exact hW⟩
      rw [loopO_inl (s' := ([x'], st3))]
      · exact hrun
      · simp only [w23_L1, unc_cons, asB_bool, asI_int, un0_nil, hxl, ifB_decide, if_pos hpos, notNil, chk_true, fldA_mp, Nat.zero_add, letSt_eq, hpop, unT_tup, nthS_zero, nthS_one, unA_agg, asS_str, hy.asOne, hst, hst1, ld, List.drop_zero, List.drop_succ_cons, takeO_one, bindO_ok, ifB_beq, onSum_inl, onSum_inr, letV_eq, ifB_true, ifB_false, if_pos k1, htext]
    by_cases k5 : k = 5
    · have hm5 : 0 ≤ m ∧ m ≤ 200 := by omega
      obtain ⟨x2, us, hx2, hus, hpush⟩ := call_push hx' ht (i + m) f kids ⟨k, s, m, rfl⟩ (by omega)
      have hwi : IntKind.wrap .i64 (i + m) = i + m := wrap_i64 (by omega) (by omega)
      obtain ⟨st', c', hrun, hW⟩ := wlay_loop w hw n (kidsT kids (i + m) f ++ l) x2 (vs ++ us) c (I + 200) out st2 (by rw [msr_kids]; omega) (by omega) hx2 (by rw [rev_kids]; exact All2.append hl2 hus) (mayT_kids hks hls) h0 (by rw [txt_kids, msr_kids]; omega) (by omega) (Ind_kids hIl (by omega) (by omega) (by omega)) (by rw [txt_kids, msr_kids]; omega) (by rw [txt_kids, msr_kids]; omega) hro2 hp2
      refine ⟨st', c', ?_, by simp only [layF, if_neg k1, if_pos k5]; exact hW⟩
      rw [loopO_inl (s' := ([x2], st2))]
      · exact hrun
      · subst k5
        simp only [w23_L1, unc_cons, asB_bool, asI_int, un0_nil, hxl, ifB_decide, if_pos hpos, notNil, chk_true, fldA_mp, Nat.zero_add, letSt_eq, hpop, unT_tup, nthS_zero, nthS_one, unA_agg, asS_str, hy.asOne, hst, hst1, ld, List.drop_zero, List.drop_succ_cons, takeO_one, bindO_ok, ifB_beq, onSum_inl, onSum_inr, letV_eq, ifB_true, ifB_false, if_neg k1, show ¬ (5 : Int) = 2 from by omega, show ¬ (5 : Int) = 3 from by omega, show ¬ (5 : Int) = 6 from by omega, show ((5 : Int) == 4) = false from rfl, if_false, ld6, ht6, hwi, hpush]
    by_cases k6 : k = 6
    · have hdoc : IsDoc (.mk k s m kids) (.agg [.int .u8 k, .str s, .int .i64 m, y]) := ⟨y, es, rfl, r1, r2, r3, hy, hk⟩
      obtain ⟨x3, us3, hx3, hus3, hpush3⟩ := call_push hx' ht i true kids ⟨k, s, m, rfl⟩ (by omega)
      have hmk := msr_kids kids i true l
      have htk := txt_kids kids i true l
      obtain ⟨st3, hk3, hfits⟩ := fits_ok (l := kidsT kids i true ++ l) hw (by omega) hx3 (by rw [rev_kids]; exact All2.append hl2 hus3) (mayT_kids hks hls) h0 (by omega) hro2 hpc
      have hfits : ∀ {β : Type} (K : Kv β), callS (orc vE) 36 [.mp p 0, x3] st2 K = K (.bool (fitF w (msr (kidsT kids i true ++ l)) (kidsT kids i true ++ l) c)) st3 ⟨[], .all st2 st3⟩ := fun K => callS_wide K rfl rfl hfits
      have hhard : ∀ {β : Type} (K : Kv β), callS (orc vE) 25 [.agg [.int .u8 k, .str s, .int .i64 m, y]] st2 K = K (.bool (hardD (.mk k s m kids))) st2 q0 := fun K => call1 st2 rfl hdoc.bare (hard_prog _ _ hdoc) K
      have hlay : layF w (n + 1) ((.mk k s m kids, i, f) :: l) c = layF w n (kidsT kids i (f || (!hardD (.mk k s m kids) && fitF w (msr (kidsT kids i true ++ l)) (kidsT kids i true ++ l) c)) ++ l) c := by
        simp only [layF, if_neg k1, if_neg k5, if_pos k6]
      subst k6
      have go : ∀ (fl : Bool) (x2 : AV) (us : List AV) (st4 : St), IsSn 6 x2 (vs ++ us) → All2 IsTodo (kids.reverse.map fun d => (d, i, fl)) us → st4.ro ≤ st4.h → IsW st4 p c w out → w23_L1 (.mp p 0) ([x], st) = some (.inl ([x2], st4)) →
          (f || (!hardD (.mk 6 s m kids) && fitF w (msr (kidsT kids i true ++ l)) (kidsT kids i true ++ l) c)) = fl →
          ∃ st' c', loopO (w23_L1 (.mp p 0)) ([x], st) = some (0, [], st') ∧ WF st' p c' w (out ++ layF w (n + 1) ((.mk 6 s m kids, i, f) :: l) c) := by
        intro fl x2 us st4 hx2 hus hro4 hp4 hstep hfl
        obtain ⟨st', c', hrun, hW⟩ := wlay_loop w hw n (kidsT kids i fl ++ l) x2 (vs ++ us) c I out st4 (by rw [msr_kids]; omega) (by omega) hx2 (by rw [rev_kids]; exact All2.append hl2 hus) (mayT_kids hks hls) h0 (by rw [txt_kids, msr_kids]; omega) hI0 (Ind_kids hIl (by omega) (by omega) (by omega)) (by rw [txt_kids, msr_kids]; omega) (by rw [txt_kids, msr_kids]; omega) hro4 hp4
        refine ⟨st', c', ?_, by rw [hlay, hfl]; exact hW⟩
        rw [loopO_inl hstep]; exact hrun
      cases hf : f with
      | true =>
        subst hf
        refine go true x3 us3 st2 hx3 hus3 hro2 hp2 ?_ (Bool.true_or _)
        simp only [w23_L1, unc_cons, asB_bool, asI_int, un0_nil, hxl, ifB_decide, if_pos hpos, notNil, chk_true, fldA_mp, Nat.zero_add, letSt_eq, hpop, unT_tup, nthS_zero, nthS_one, unA_agg, asS_str, hy.asOne, hst, hst1, ld, List.drop_zero, List.drop_succ_cons, takeO_one, bindO_ok, ifB_beq, onSum_inl, onSum_inr, letV_eq, ifB_true, ifB_false, if_neg k1, show ¬ (6 : Int) = 2 from by omega, show ¬ (6 : Int) = 3 from by omega, show ((6 : Int) == 4) = false from rfl, if_false, if_true, ld6, ht6, hpush3]
      | false =>
        subst hf
        obtain ⟨x2, us, hx2, hus, hpush⟩ := call_push hx' ht i false kids ⟨6, s, m, rfl⟩ (by omega)
        cases hh6 : hardD (.mk 6 s m kids) with
        | true =>
          rw [hh6] at hhard
          refine go false x2 us st2 hx2 hus hro2 hp2 ?_ (by rw [hh6]; rfl)
          simp only [w23_L1, unc_cons, asB_bool, asI_int, un0_nil, hxl, ifB_decide, if_pos hpos, notNil, chk_true, fldA_mp, Nat.zero_add, letSt_eq, hpop, unT_tup, nthS_zero, nthS_one, unA_agg, asS_str, hy.asOne, hst, hst1, ld, List.drop_zero, List.drop_succ_cons, takeO_one, bindO_ok, ifB_beq, onSum_inl, onSum_inr, letV_eq, ifB_true, ifB_false, if_neg k1, show ¬ (6 : Int) = 2 from by omega, show ¬ (6 : Int) = 3 from by omega, show ((6 : Int) == 4) = false from rfl, if_false, if_true, ld6, ht6, ld4, ht4, hpush3, hhard, Bool.not_true, hpush]
        | false =>
          rw [hh6] at hhard
          have hro3 : st3.ro ≤ st3.h := by have := hk3.ro; have := hk3.h; omega
          have hp3 : IsW st3 p c w out := hp2.keep hk3
          have hg3 := hk3.old _ _ (fun h => h) hg
          have ld3 := fun {β : Type} (o : Nat) (K : AV → List Nat → Option β) => loadS_mp hg3 1 false o K
          have ld63 := fun {β : Type} (K : AV → List Nat → Option β) => loadS_mp hg3 6 true 0 K
          cases hff : fitF w (msr (kidsT kids i true ++ l)) (kidsT kids i true ++ l) c with
          | true =>
            rw [hff] at hfits
            refine go true x3 us3 st3 hx3 hus3 hro3 hp3 ?_ (by rw [hh6, hff]; rfl)
            simp only [w23_L1, unc_cons, asB_bool, asI_int, un0_nil, hxl, ifB_decide, if_pos hpos, notNil, chk_true, fldA_mp, Nat.zero_add, letSt_eq, hpop, unT_tup, nthS_zero, nthS_one, unA_agg, asS_str, hy.asOne, hst, hst1, ld, List.drop_zero, List.drop_succ_cons, takeO_one, bindO_ok, ifB_beq, onSum_inl, onSum_inr, letV_eq, ifB_true, ifB_false, if_neg k1, show ¬ (6 : Int) = 2 from by omega, show ¬ (6 : Int) = 3 from by omega, show ((6 : Int) == 4) = false from rfl, if_false, if_true, ld6, ht6, ld4, ht4, hpush3, hhard, Bool.not_false, hfits]
          | false =>
            rw [hff] at hfits
            refine go false x2 us st3 hx2 hus hro3 hp3 ?_ (by rw [hh6, hff]; rfl)
            simp only [w23_L1, unc_cons, asB_bool, asI_int, un0_nil, hxl, ifB_decide, if_pos hpos, notNil, chk_true, fldA_mp, Nat.zero_add, letSt_eq, hpop, unT_tup, nthS_zero, nthS_one, unA_agg, asS_str, hy.asOne, hst, hst1, ld, List.drop_zero, List.drop_succ_cons, takeO_one, bindO_ok, ifB_beq, onSum_inl, onSum_inr, letV_eq, ifB_true, ifB_false, if_neg k1, show ¬ (6 : Int) = 2 from by omega, show ¬ (6 : Int) = 3 from by omega, show ((6 : Int) == 4) = false from rfl, if_false, if_true, ld6, ht6, ld4, ht4, hpush3, hhard, Bool.not_false, hfits, ld63, ld3, hpush]
    by_cases k7 : k = 7
    · have hm7 : m = 0 := by omega
      obtain ⟨x2, us, hx2, hus, hpush⟩ := call_push hx' ht i f kids ⟨k, s, m, rfl⟩ (by omega)
      have hwi : IntKind.wrap .i64 (i + m) = i := by rw [hm7, Int.add_zero]; exact wrap_i64 (by omega) (by omega)
      obtain ⟨st', c', hrun, hW⟩ := wlay_loop w hw n (kidsT kids i f ++ l) x2 (vs ++ us) c I out st2 (by rw [msr_kids]; omega) (by omega) hx2 (by rw [rev_kids]; exact All2.append hl2 hus) (mayT_kids hks hls) h0 (by rw [txt_kids, msr_kids]; omega) hI0 (Ind_kids hIl (by omega) (by omega) (by omega)) (by rw [txt_kids, msr_kids]; omega) (by rw [txt_kids, msr_kids]; omega) hro2 hp2
      refine ⟨st', c', ?_, by simp only [layF, if_neg k1, if_neg k5, if_neg k6, if_pos k7]; exact hW⟩
      rw [loopO_inl (s' := ([x2], st2))]
      · exact hrun
      · subst k7
        simp only [w23_L1, unc_cons, asB_bool, asI_int, un0_nil, hxl, ifB_decide, if_pos hpos, notNil, chk_true, fldA_mp, Nat.zero_add, letSt_eq, hpop, unT_tup, nthS_zero, nthS_one, unA_agg, asS_str, hy.asOne, hst, hst1, ld, List.drop_zero, List.drop_succ_cons, takeO_one, bindO_ok, ifB_beq, onSum_inl, onSum_inr, letV_eq, ifB_true, ifB_false, if_neg k1, show ¬ (7 : Int) = 2 from by omega, show ¬ (7 : Int) = 3 from by omega, show ¬ (7 : Int) = 6 from by omega, show ((7 : Int) == 4) = false from rfl, if_false, ld6, ht6, hwi, hpush]
    by_cases hf : f = true ∧ k ≠ 4
    · obtain ⟨rfl, k4⟩ := hf
      have e4 : (k == 4) = false := beq_false_of_ne k4
      by_cases k2 : k = 2
      · obtain ⟨st3, hp3, hk3, fx3, htext⟩ := text_ok (s := [32]) hp2 rfl (by simp only [List.length_singleton]; omega) hro2 h0 (by omega)
        obtain ⟨st', c', hrun, hW⟩ := wlay_loop w hw n l x' vs (c + 1) I (out ++ [32]) st3 (by omega) (by omega) hx' hl2 hls (by omega) (by omega) hI0 hIl (by omega) (by rw [List.length_append, List.length_singleton]; omega) (by have := hk3.ro; have := hk3.h; omega) hp3
        refine ⟨st', c', ?_, by simp only [layF, if_neg k1, if_neg k5, if_neg k6, if_neg k7, if_pos k2, if_pos (show True ∧ k ≠ 4 from ⟨trivial, k4⟩)]; rw [List.append_assoc] at hW; exact hW⟩
        rw [loopO_inl (s' := ([x'], st3))]
        · exact hrun
        · subst k2
          simp only [w23_L1, unc_cons, asB_bool, asI_int, un0_nil, hxl, ifB_decide, if_pos hpos, notNil, chk_true, fldA_mp, Nat.zero_add, letSt_eq, hpop, unT_tup, nthS_zero, nthS_one, unA_agg, asS_str, hy.asOne, hst, hst1, ld, List.drop_zero, List.drop_succ_cons, takeO_one, bindO_ok, ifB_beq, onSum_inl, onSum_inr, letV_eq, ifB_true, ifB_false, if_neg k1, if_true, beq_self_eq_true, Bool.not_true, show ((2 : Int) == 4) = false from rfl, htext]
      · have k3 : k = 3 := by omega
        obtain ⟨st', c', hrun, hW⟩ := wlay_loop w hw n l x' vs c I out st2 (by omega) (by omega) hx' hl2 hls (by omega) (by omega) hI0 hIl (by omega) (by omega) hro2 hp2
        refine ⟨st', c', ?_, by simp only [layF, if_neg k1, if_neg k5, if_neg k6, if_neg k7, if_neg k2, if_pos (show True ∧ k ≠ 4 from ⟨trivial, k4⟩)]; exact hW⟩
        rw [loopO_inl (s' := ([x'], st2))]
        · exact hrun
        · subst k3
          simp only [w23_L1, unc_cons, asB_bool, asI_int, un0_nil, hxl, ifB_decide, if_pos hpos, notNil, chk_true, fldA_mp, Nat.zero_add, letSt_eq, hpop, unT_tup, nthS_zero, nthS_one, unA_agg, asS_str, hy.asOne, hst, hst1, ld, List.drop_zero, List.drop_succ_cons, takeO_one, bindO_ok, ifB_beq, onSum_inl, onSum_inr, letV_eq, ifB_true, ifB_false, if_neg k1, if_true, beq_self_eq_true, Bool.not_true, if_neg k2, if_false, show ((3 : Int) == 4) = false from rfl]
    · obtain ⟨ind, rfl⟩ := Int.eq_ofNat_of_zero_le hIi.1
      obtain ⟨st3, hp3, hk3, fx3, hend⟩ := end_ok hp2 ind (by omega) (by omega) hro2
      obtain ⟨st', c', hrun, hW⟩ := wlay_loop w hw n l x' vs (ind : Int) I (out ++ 10 :: List.replicate ind 32) st3 (by omega) (by omega) hx' hl2 hls (by omega) (by omega) hI0 hIl (by omega) (by simp only [List.length_append, List.length_cons, List.length_replicate]; omega) (by have := hk3.ro; have := hk3.h; omega) hp3
      refine ⟨st', c', ?_, by simp only [layF, if_neg k1, if_neg k5, if_neg k6, if_neg k7, if_neg hf]; rw [List.append_assoc] at hW; exact hW⟩
      rw [loopO_inl (s' := ([x'], st3))]
      · exact hrun
      · have kk : k = 2 ∨ k = 3 ∨ k = 4 := by omega
        cases hff : f with
        | false =>
          subst hff
          rcases kk with rfl | rfl | rfl
          · simp only [w23_L1, unc_cons, asB_bool, asI_int, un0_nil, hxl, ifB_decide, if_pos hpos, notNil, chk_true, fldA_mp, Nat.zero_add, letSt_eq, hpop, unT_tup, nthS_zero, nthS_one, unA_agg, asS_str, hy.asOne, hst, hst1, ld, List.drop_zero, List.drop_succ_cons, takeO_one, bindO_ok, ifB_beq, onSum_inl, onSum_inr, letV_eq, ifB_true, ifB_false, if_neg k1, if_true, beq_self_eq_true, Bool.not_false, hend]
          · simp only [w23_L1, unc_cons, asB_bool, asI_int, un0_nil, hxl, ifB_decide, if_pos hpos, notNil, chk_true, fldA_mp, Nat.zero_add, letSt_eq, hpop, unT_tup, nthS_zero, nthS_one, unA_agg, asS_str, hy.asOne, hst, hst1, ld, List.drop_zero, List.drop_succ_cons, takeO_one, bindO_ok, ifB_beq, onSum_inl, onSum_inr, letV_eq, ifB_true, ifB_false, if_neg k1, if_true, beq_self_eq_true, Bool.not_false, show ¬ (3 : Int) = 2 from by omega, if_false, hend]
          · simp only [w23_L1, unc_cons, asB_bool, asI_int, un0_nil, hxl, ifB_decide, if_pos hpos, notNil, chk_true, fldA_mp, Nat.zero_add, letSt_eq, hpop, unT_tup, nthS_zero, nthS_one, unA_agg, asS_str, hy.asOne, hst, hst1, ld, List.drop_zero, List.drop_succ_cons, takeO_one, bindO_ok, ifB_beq, onSum_inl, onSum_inr, letV_eq, ifB_true, ifB_false, if_neg k1, if_true, beq_self_eq_true, Bool.not_false, show ¬ (4 : Int) = 2 from by omega, show ¬ (4 : Int) = 3 from by omega, if_false, hend]
        | true =>
          have k4 : k = 4 := by
            rw [hff] at hf
            simpa using hf
          subst hff k4
          simp only [w23_L1, unc_cons, asB_bool, asI_int, un0_nil, hxl, ifB_decide, if_pos hpos, notNil, chk_true, fldA_mp, Nat.zero_add, letSt_eq, hpop, unT_tup, nthS_zero, nthS_one, unA_agg, asS_str, hy.asOne, hst, hst1, ld, List.drop_zero, List.drop_succ_cons, takeO_one, bindO_ok, ifB_beq, onSum_inl, onSum_inr, letV_eq, ifB_true, ifB_false, if_neg k1, if_true, beq_self_eq_true, Bool.not_true, show ¬ (4 : Int) = 2 from by omega, show ¬ (4 : Int) = 3 from by omega, if_false, hend]
theorem wlay_ok {l : List Todo} {x : AV} {ws : List AV} {w I : Int} {p : Nat} {st : St} (hw : -1000000000 ≤ w ∧ w ≤ 1000000000) (hm : msr l ≤ 100000) (hx : IsSn 6 x ws) (hl : All2 IsTodo l.reverse ws) (hn : mayT l = true) (hI0 : 0 ≤ I) (hI : Ind I l) (hI2 : I + 200 * msr l + txt l ≤ 1000000) (hro : st.ro ≤ st.h) (hp : IsW st p 0 w []) :
    ∃ st', (orc vE).wide 23 [.mp p 0, x] st = some (.str (layF w (msr l) l 0), st') := by
  obtain ⟨st', c', hrun, hW⟩ := wlay_loop w hw (msr l) l x ws 0 I [] st (Nat.le_refl _) (by omega) hx hl hn (by omega) (by omega) hI0 hI hI2 (by simp only [List.length_nil]; omega) hro hp
  rw [List.nil_append] at hW
  obtain ⟨hW, hL⟩ := hW
  have hlen : (layF w (msr l) l 0).length < 4611686018427387904 := by omega
  obtain ⟨fx, hbs⟩ := bstring_ok (O := orc vE) (β := AV × St) hW hlen (fun v st _ => asS v fun l => some (.str l, st))
  refine ⟨st', wide_of ((w23_eq _ _ _).trans ?_)⟩
  simp only [w23, hrun, bindO_ok, un0_nil, notNil, chk_true, fldA_mp, Nat.zero_add]
  exact hbs
end Go.Proofs.YteajphhelkdjnaaDoor.Vm
/- UTF-8 by the reference: Size, Valid. -/
set_option maxRecDepth 100000
set_option linter.unusedSimpArgs false
namespace Go.Proofs.YteajphhelkdjnaaDoor.Vm
open Go Go.VM Go.Proofs

end Go.Proofs.YteajphhelkdjnaaDoor.Vm
/- Layouts: Valid; May, by the reference and by the program. -/
set_option maxRecDepth 100000
set_option linter.unusedSimpArgs false
namespace Go.Proofs.YteajphhelkdjnaaDoor.Vm
open Go Go.VM Go.Proofs

theorem isEmpty_len {kids : List Doc} {es : List AV} (h : es.length = kids.length) : es = [] ↔ kids.isEmpty = true := by
  cases kids with
  | nil => simp only [List.length_nil] at h; simp [List.eq_nil_of_length_eq_zero h]
  | cons d l =>
    simp only [List.isEmpty_cons]
    constructor
    · rintro rfl; simp at h
    · intro h; cases h
theorem any_may : ∀ (ds : List Doc), (!(ds.any fun d => !mayD d)) = mayDs ds
  | [] => rfl
  | d :: ds => by
    simp only [List.any_cons, mayDs, ← any_may ds]
    cases mayD d <;> simp
theorem txt_mem {d : Doc} : ∀ {ds : List Doc}, d ∈ ds → txtD d ≤ txtDs ds
  | _ :: _, h => by
    rcases List.mem_cons.1 h with rfl | h
    · simp only [txtDs]; omega
    · have := txt_mem h; simp only [txtDs]; omega
/-- The program's May. -/
theorem may_prog (d : Doc) (v : AV) (hv : IsDoc d v) (hb : txtD d ≤ 1000000000) : (orc vE).bare 15 [v] = some (.bool (mayD d)) := by
  match d with
  | .mk k s n kids =>
    obtain ⟨x, es, rfl, r1, r2, r3, hx, hes⟩ := hv
    simp only [txtD] at hb
    refine bare_of rfl ((g15_eq _).trans ?_)
    have hc := fun (st : St) (K : Kv Car) => contains_of (f := 30) rfl rfl (fun d => !mayD d) hx hes (fun d hd v hv => by
      have hrec := may_prog d v hv (by have := txt_mem hd; omega)
      have hcall := fun K => call1 (β := AV) (f := 15) (St.mk 0 0 Tr.leaf) rfl hv.bare hrec K
      refine bare_of rfl ((g30_eq _).trans ?_)
      obtain ⟨k', s', n', kids'⟩ := d
      obtain ⟨y, es', rfl, _, _, _, hy, _⟩ := hv
      simp only [g30, unA_agg, unc_cons, asI_int, asS_str, un0_nil, hy.asOne, hy.fit1, hcall, asB_bool]) st K
    have hval : ∀ {β : Type} (st : St) (K : Kv β), planS (orc vE) (primP (Prim.lib libValid) [.str s]) st K = K (.bool (validS s)) st q0 := fun st K => planS_lib (libValid_ok (by omega)) st K
    have hco : ∀ {β : Type} (c : UInt8) (st : St) (K : Kv β), planS (orc vE) (primP (Prim.lib libContains) [.str s, .str [c]]) st K = K (.bool (s.any fun b => b == c)) st q0 := fun c st K => planS_lib (libContains_ok s c) st K
    have hlen := hes.all.len
    have hem := isEmpty_len hlen
    have hfin : ∀ (b : Bool) (st : St) (K : Car → Option AV), bindO (ifB b (callS (orc vE) 29 [x, AV.fn (Fn.func 30) [] []] st fun v72 st73 _x => asB v72 fun b75 => some ([AV.bool !b75], st73)) (some ([AV.bool false], st))) K = K ([.bool (b && mayDs kids)], st) := fun b st K => by
      cases b with
      | false => rfl
      | true =>
        rw [ifB_true, hc, asB_bool, bindO_ok, any_may]; rfl
    simp only [mayD, okD]
    by_cases k1 : k = 1
    · subst k1
      by_cases n0 : n = 0
      · subst n0
        by_cases he : es = []
        · have hke : kids.isEmpty = true := hem.1 he
          cases hv : validS s with
          | false => simp [g15, unA_agg, unc_cons, asI_int, asS_str, un0_nil, hx.asOne, hx.fit1, hx.len, he, hval, hco, hfin, hke, hv]
          | true =>
            cases h10 : s.any fun b => b == 10 with
            | false => simp [g15, unA_agg, unc_cons, asI_int, asS_str, un0_nil, hx.asOne, hx.fit1, hx.len, he, hval, hco, hfin, hke, hv, h10]
            | true => simp [g15, unA_agg, unc_cons, asI_int, asS_str, un0_nil, hx.asOne, hx.fit1, hx.len, he, hval, hco, hfin, hke, hv, h10]
        · have hke : kids.isEmpty = false := by cases h : kids.isEmpty <;> simp_all
          simp [g15, unA_agg, unc_cons, asI_int, asS_str, un0_nil, hx.asOne, hx.fit1, hx.len, he, hval, hco, hfin, hke]
      · simp [g15, unA_agg, unc_cons, asI_int, asS_str, un0_nil, hx.asOne, hx.fit1, hx.len, n0, hval, hco, hfin]
    by_cases k2 : k = 2 ∨ k = 3 ∨ k = 4
    · by_cases n0 : n = 0
      · subst n0
        by_cases he : es = []
        · have hke : kids.isEmpty = true := hem.1 he
          rcases k2 with rfl | rfl | rfl <;> simp [g15, unA_agg, unc_cons, asI_int, asS_str, un0_nil, hx.asOne, hx.fit1, hx.len, he, hfin, hke]
        · have hke : kids.isEmpty = false := by cases h : kids.isEmpty <;> simp_all
          rcases k2 with rfl | rfl | rfl <;> simp [g15, unA_agg, unc_cons, asI_int, asS_str, un0_nil, hx.asOne, hx.fit1, hx.len, he, hfin, hke]
      · rcases k2 with rfl | rfl | rfl <;> simp [g15, unA_agg, unc_cons, asI_int, asS_str, un0_nil, hx.asOne, hx.fit1, hx.len, n0, hfin]
    have k2' : ¬ k = 2 ∧ ¬ k = 3 ∧ ¬ k = 4 := by omega
    by_cases k5 : k = 5
    · subst k5
      by_cases h0 : n ≥ 0
      · have h0' : 0 ≤ n := h0
        by_cases h2 : n ≤ 200
        · simp [g15, unA_agg, unc_cons, asI_int, asS_str, un0_nil, hx.asOne, hx.fit1, hx.len, hfin, h0', h2]
        · simp [g15, unA_agg, unc_cons, asI_int, asS_str, un0_nil, hx.asOne, hx.fit1, hx.len, hfin, h0', h2]
      · have h0' : ¬ 0 ≤ n := h0
        simp [g15, unA_agg, unc_cons, asI_int, asS_str, un0_nil, hx.asOne, hx.fit1, hx.len, hfin, h0']
    by_cases k6 : k = 6 ∨ k = 7
    · by_cases n0 : n = 0
      · subst n0
        rcases k6 with rfl | rfl <;> simp [g15, unA_agg, unc_cons, asI_int, asS_str, un0_nil, hx.asOne, hx.fit1, hx.len, hfin]
      · rcases k6 with rfl | rfl <;> simp [g15, unA_agg, unc_cons, asI_int, asS_str, un0_nil, hx.asOne, hx.fit1, hx.len, hfin, n0]
    have k6' : ¬ k = 6 ∧ ¬ k = 7 := by omega
    simp [g15, unA_agg, unc_cons, asI_int, asS_str, un0_nil, hx.asOne, hx.fit1, hx.len, hfin, k1, k2', k5, k6']
termination_by SizeOf.sizeOf d
decreasing_by
  have := mem_size hd
  simp_wf
  omega
end Go.Proofs.YteajphhelkdjnaaDoor.Vm
/- Layouts: Show and Flat; without blanks; the example. -/
set_option maxRecDepth 100000
set_option linter.unusedSimpArgs false
namespace Go.Proofs.YteajphhelkdjnaaDoor.Vm
open Go Go.VM Go.Proofs

def showD (d : Doc) (w : Int) : List UInt8 × Int :=
  if w < 1 ∨ w > 200 then ([], 1) else if mayD d = false then ([], 4) else (layF w (cntD d) [(d, 0, false)] 0, 0)
theorem todo_of {d : Doc} {v : AV} (hv : IsDoc d v) (f : Bool) : ∃ k s n x, v = .agg [.int .u8 k, .str s, .int .i64 n, x] ∧ IsTodo (d, 0, f) (.agg [.int .u8 k, .str s, .int .i64 n, x, .int .i64 0, .bool f]) ∧ one x = true ∧ (∀ {β : Type} (K : AV → Option β), fit1 x K = K x) := by
  obtain ⟨k, s, n, kids⟩ := d
  have hv' := hv
  obtain ⟨x, es, rfl, r1, r2, r3, hx, hes⟩ := hv
  exact ⟨k, s, n, x, rfl, ⟨_, _, _, _, hv', rfl⟩, hx.one, fun K => hx.fit1 K⟩
theorem lay1_prog {d : Doc} {v : AV} {f : Bool} (ht : IsTodo (d, 0, f) v) (hn : mayD d = true) (h1 : cntD d ≤ 2000) (h2 : txtD d ≤ 100000) {w : Int} (hw : -1000000000 ≤ w ∧ w ≤ 1000000000) {st : St} (hro : st.ro ≤ st.h) :
    ∃ st' fx, ∀ {β : Type} (K : Kv β), callS (orc vE) 23 [.mp st.h 0, .sl 6 [v] .shut] (st.add (.cells 56 [.nilp, .nils, .int .i64 0, .int .i64 w])) K = K (.str (layF w (cntD d) [(d, 0, f)] 0)) st' fx := by
  have hm : msr [(d, (0 : Int), f)] = cntD d := by simp [msr]
  have hW : IsW (st.add (.cells 56 [.nilp, .nils, .int .i64 0, .int .i64 w])) st.h 0 w [] := ⟨.nilp, .nils, St.get_add_new, .inl rfl, .inl ⟨rfl, rfl⟩, hro⟩
  obtain ⟨st', hl⟩ := wlay_ok (l := [(d, 0, f)]) (x := .sl 6 [v] .shut) (ws := [v]) (w := w) (I := 0) (p := st.h) hw (by omega) ⟨by simp, .inl rfl⟩ ⟨v, [], rfl, ht, rfl⟩ (by simp [mayT, hn]) (by omega) (by intro t h; simp at h; subst h; exact ⟨Int.le_refl _, Int.le_refl _⟩) (by simp [msr, txt]; omega)
    (by show st.ro ≤ st.h + 1; omega) hW
  rw [hm] at hl
  exact ⟨st', _, fun K => callS_wide K rfl rfl hl⟩
theorem show_prog {d : Doc} {v : AV} (hv : IsDoc d v) (w : Int) (h1 : cntD d ≤ 2000) (h2 : txtD d ≤ 100000) : (orc vE).bare 10 [v, .int .i64 w] = some (.tup [.str (showD d w).1, .int .i64 (showD d w).2]) := by
  refine bare_of rfl ((g10_eq _ _).trans ?_)
  obtain ⟨k, s, n, x, rfl, ht, ho, hf⟩ := todo_of hv false
  have hmay := fun {β : Type} (st : St) (K : Kv β) => call1 (f := 15) st rfl hv.bare (may_prog d _ hv (by omega)) K
  have hx := fun {β : Type} (K : Option β) => asOne_of ho K
  unfold showD
  by_cases c1 : w < 1
  · rw [if_pos (.inl c1)]
    simp only [g10, unA_agg, unc_cons, asI_int, asS_str, un0_nil, hx, hf, ifB_decide, if_pos c1, bindO_ok, asB_bool, ifB_true]
  by_cases c2 : w > 200
  · rw [if_pos (.inr c2)]
    simp only [g10, unA_agg, unc_cons, asI_int, asS_str, un0_nil, hx, hf, ifB_decide, if_neg c1, bindO_ok, asB_bool, if_pos c2]
  rw [if_neg (by omega)]
  cases hm : mayD d with
  | false =>
    rw [hm] at hmay
    simp only [g10, unA_agg, unc_cons, asI_int, asS_str, un0_nil, hx, hf, ifB_decide, if_neg c1, bindO_ok, asB_bool, if_neg c2, hmay, Bool.not_false, ifB_true, if_true]
  | true =>
    rw [hm] at hmay
    obtain ⟨st', fx, hlay⟩ := lay1_prog ht hm h1 h2 (w := w) (by omega) (st := St.mk 0 0 Tr.leaf) (Nat.le_refl _)
    simp only [g10, unA_agg, unc_cons, asI_int, asS_str, un0_nil, hx, hf, ifB_decide, if_neg c1, bindO_ok, asB_bool, if_neg c2, hmay, Bool.not_true, ifB_false, letSt_eq, hlay, Bool.true_eq_false, if_false]
theorem awake_ok : (orc vE).bare 9 [] = some (.bool true) := by
  have h : isTrue ((caller vE 60).bare 9 []) = true := by kernel_rfl
  exact orc_bare (isTrue_ok h)
end Go.Proofs.YteajphhelkdjnaaDoor.Vm
/- LayoutShows: what the law's shallow form tells. -/
set_option maxRecDepth 100000
set_option linter.unusedSimpArgs false
namespace Go.Proofs.YteajphhelkdjnaaDoor.Vm
open Go Go.VM Go.Proofs

mutual
theorem cnt_cost : ∀ (d : Doc), cntD d ≤ costD d ∧ txtD d ≤ 20 * costD d
  | .mk k s n kids => by
    have := cnts_costs kids
    simp only [cntD, costD, txtD]
    omega
theorem cnts_costs : ∀ (l : List Doc), cntDs l ≤ costDs l ∧ txtDs l ≤ 20 * costDs l
  | [] => by simp [cntDs, costDs, txtDs]
  | d :: l => by
    have := cnt_cost d
    have := cnts_costs l
    simp only [cntDs, costDs, txtDs]
    omega
end
theorem call_awake {β : Type} (st : St) (K : Kv β) : callS (orc vE) 9 [] st K = K (.bool true) st q0 := callS_bare st K rfl rfl rfl awake_ok
theorem call_parts {d : Doc} {v : AV} (hv : IsDoc d v) (most : Nat) (hm : most ≤ 1000000) : ∃ r : Nat, (∀ {β : Type} (st : St) (K : Kv β), callS (orc vE) 8 [v, .int .i64 (most : Int)] st K = K (.int .i64 (r : Int)) st q0) ∧ (r < most → costD d < most) := by
  obtain ⟨r, h1, h2, h3, h4⟩ := parts_ok d v most hv hm
  refine ⟨r, fun st K => callS_bare st K rfl (by simp [hv.bare.2]; rfl) (by simp only [bares_cons, hv.bare.1]; rfl) h1, fun h => ?_⟩
  by_cases hc : costD d < most
  · exact hc
  · have := h4 (by omega); omega
theorem call_given {d : Doc} {v : AV} (hv : IsDoc d v) (hc : cntD d ≤ 100000) : ∃ v', IsDoc d v' ∧ ∀ {β : Type} (st : St) (K : Kv β), callS (orc vE) 11 [v] st K = K v' st q0 := by
  obtain ⟨v', h1, h2⟩ := given_ok d v hv hc
  exact ⟨v', h2, fun st K => call1 st rfl hv.bare h1 K⟩
theorem call_show {d : Doc} {v : AV} (hv : IsDoc d v) (w : Int) (h1 : cntD d ≤ 2000) (h2 : txtD d ≤ 100000) {β : Type} (st : St) (K : Kv β) : callS (orc vE) 10 [v, .int .i64 w] st K = K (.tup [.str (showD d w).1, .int .i64 (showD d w).2]) st q0 :=
  callS_bare st K rfl (by simp [hv.bare.2]; rfl) (by simp only [bares_cons, hv.bare.1]; rfl) (show_prog hv w h1 h2)
end Go.Proofs.YteajphhelkdjnaaDoor.Vm
/- Layouts: what the laws LayoutTexts and LayoutRows say, plainly. -/
set_option maxRecDepth 100000
set_option linter.unusedSimpArgs false
namespace Go.Proofs.YteajphhelkdjnaaDoor.Vm
open Go Go.VM Go.Proofs
/-! What is written, without blanks and line's ends, does not hang on the width. -/
/-! With as much as is asked for. -/
theorem fitF_more (w : Int) : ∀ (n m : Nat) (l : List Todo) (c : Int), msr l ≤ n → msr l ≤ m → fitF w n l c = fitF w m l c
  | 0, 0, _, _, _, _ => rfl
  | 0, m + 1, [], _, _, _ => rfl
  | n + 1, 0, [], _, _, _ => rfl
  | n + 1, m + 1, [], _, _, _ => rfl
  | 0, _ + 1, t :: l, _, h, _ => by have := cnt_pos t.1; simp only [msr] at h; omega
  | _ + 1, 0, t :: l, _, _, h => by have := cnt_pos t.1; simp only [msr] at h; omega
  | n + 1, m + 1, (.mk k s q kids, i, f) :: l, c, h, h' => by
    simp only [msr, cntD] at h h'
    have ih := fun c => fitF_more w n m l c (by omega) (by omega)
    have ihk := fun f => fitF_more w n m (kidsT kids i f ++ l) c (by rw [msr_kids]; omega) (by rw [msr_kids]; omega)
    simp only [fitF, ih, ihk]
theorem layF_more (w : Int) : ∀ (n m : Nat) (l : List Todo) (c : Int), msr l ≤ n → msr l ≤ m → layF w n l c = layF w m l c
  | 0, 0, _, _, _, _ => rfl
  | 0, m + 1, [], _, _, _ => rfl
  | n + 1, 0, [], _, _, _ => rfl
  | n + 1, m + 1, [], _, _, _ => rfl
  | 0, _ + 1, t :: l, _, h, _ => by have := cnt_pos t.1; simp only [msr] at h; omega
  | _ + 1, 0, t :: l, _, _, h => by have := cnt_pos t.1; simp only [msr] at h; omega
  | n + 1, m + 1, (.mk k s q kids, i, f) :: l, c, h, h' => by
    simp only [msr, cntD] at h h'
    have ih := fun c => layF_more w n m l c (by omega) (by omega)
    have ihk := fun i f => layF_more w n m (kidsT kids i f ++ l) c (by rw [msr_kids]; omega) (by rw [msr_kids]; omega)
    simp only [layF, ih, ihk]
def fit (w : Int) (l : List Todo) (c : Int) : Bool := fitF w (msr l) l c
def lay (w : Int) (l : List Todo) (c : Int) : List UInt8 := layF w (msr l) l c
theorem fit_nil (w c : Int) : fit w [] c = decide (c ≤ w) := rfl
theorem fit_cons (w : Int) (k : Int) (s : List UInt8) (m : Int) (kids : List Doc) (i : Int) (f : Bool) (l : List Todo) (c : Int) : fit w ((.mk k s m kids, i, f) :: l) c =
    if c > w then false else if k = 1 then fit w l (c + chars s) else if k = 2 ∨ k = 3 then (if f = false then true else fit w l (if k = 2 then c + 1 else c)) else if k = 4 then true else fit w (kidsT kids i (f || k == 6) ++ l) c := by
  have h0 : msr ((.mk k s m kids, i, f) :: l) = (cntDs kids + msr l) + 1 := by simp only [msr, cntD]; omega
  have ih := fun c => fitF_more w (cntDs kids + msr l) (msr l) l c (by omega) (by omega)
  have ihk := fun f => fitF_more w (cntDs kids + msr l) (msr (kidsT kids i f ++ l)) (kidsT kids i f ++ l) c (by rw [msr_kids]; omega) (by omega)
  unfold fit
  rw [h0]
  simp only [fitF, ih, ihk]
theorem lay_cons (w : Int) (k : Int) (s : List UInt8) (m : Int) (kids : List Doc) (i : Int) (f : Bool) (l : List Todo) (c : Int) : lay w ((.mk k s m kids, i, f) :: l) c =
    if k = 1 then s ++ lay w l (c + chars s)
    else if k = 5 then lay w (kidsT kids (i + m) f ++ l) c
    else if k = 6 then lay w (kidsT kids i (f || (!hardD (.mk k s m kids) && fit w (kidsT kids i true ++ l) c)) ++ l) c
    else if k = 7 then lay w (kidsT kids i f ++ l) c
    else if f = true ∧ k ≠ 4 then (if k = 2 then 32 :: lay w l (c + 1) else lay w l c)
    else 10 :: (List.replicate i.toNat 32 ++ lay w l i) := by
  have h0 : msr ((.mk k s m kids, i, f) :: l) = (cntDs kids + msr l) + 1 := by simp only [msr, cntD]; omega
  have ih := fun c => layF_more w (cntDs kids + msr l) (msr l) l c (by omega) (by omega)
  have ihk := fun i f => layF_more w (cntDs kids + msr l) (msr (kidsT kids i f ++ l)) (kidsT kids i f ++ l) c (by rw [msr_kids]; omega) (by omega)
  unfold lay fit
  rw [h0]
  simp only [layF, ih, ihk]
/-! The same but for Rows that are opened, and Nests of 0. -/
inductive Opn : List Todo → List Todo → Prop
  | nil : Opn [] []
  | cons (t : Todo) {l m : List Todo} (h : Opn l m) : Opn (t :: l) (t :: m)
  | row (s : List UInt8) (q : Int) {kids : List Doc} {i : Int} {f : Bool} {l m : List Todo} (h : Opn (kidsT kids i f ++ l) m) : Opn ((.mk 7 s q kids, i, f) :: l) m
  | nest (s : List UInt8) {kids : List Doc} {i : Int} {f : Bool} {l m : List Todo} (h : Opn (kidsT kids i f ++ l) m) : Opn ((.mk 5 s 0 kids, i, f) :: l) m
theorem Opn.app {l m : List Todo} (h : Opn l m) : ∀ (k : List Todo), Opn (k ++ l) (k ++ m)
  | [] => h
  | t :: k => .cons t (Opn.app h k)
theorem Opn.refl : ∀ (l : List Todo), Opn l l
  | [] => .nil
  | t :: l => .cons t (Opn.refl l)
theorem fit_opn (w : Int) : ∀ (n : Nat) (l m : List Todo) (c : Int), msr l ≤ n → Opn l m → fit w l c = fit w m c := by
  intro n
  induction n with
  | zero =>
    intro l m c h ho
    cases ho with
    | nil => rfl
    | cons t h1 => have := cnt_pos t.1; simp only [msr] at h; omega
    | row s q h1 => simp only [msr, cntD] at h; omega
    | nest s h1 => simp only [msr, cntD] at h; omega
  | succ n ih =>
    intro l m c h ho
    cases ho with
    | nil => rfl
    | cons t ho =>
      rename_i l m
      obtain ⟨⟨k, s, q, kids⟩, i, f⟩ := t
      simp only [msr, cntD] at h
      have h1 := fun c => ih l m c (by omega) ho
      have h2 := fun f => ih (kidsT kids i f ++ l) (kidsT kids i f ++ m) c (by rw [msr_kids]; omega) (ho.app _)
      simp only [fit_cons, h1, h2]
    | row s q ho =>
      rename_i kids i f l
      simp only [msr, cntD] at h
      rw [fit_cons, if_neg (show ¬ (7 : Int) = 1 by decide), if_neg (show ¬ ((7 : Int) = 2 ∨ (7 : Int) = 3) by decide), if_neg (show ¬ (7 : Int) = 4 by decide), show ((7 : Int) == 6) = false from rfl, Bool.or_false, ih _ m c (by rw [msr_kids]; omega) ho]
      split
      · rename_i hc
        cases m with
        | nil => rw [fit_nil, decide_eq_false (by omega)]
        | cons t m => obtain ⟨⟨k, s, q, ks⟩, i, f⟩ := t; rw [fit_cons, if_pos hc]
      · rfl
    | nest s ho =>
      rename_i kids i f l
      simp only [msr, cntD] at h
      rw [fit_cons, if_neg (show ¬ (5 : Int) = 1 by decide), if_neg (show ¬ ((5 : Int) = 2 ∨ (5 : Int) = 3) by decide), if_neg (show ¬ (5 : Int) = 4 by decide), show ((5 : Int) == 6) = false from rfl, Bool.or_false, ih _ m c (by rw [msr_kids]; omega) ho]
      split
      · rename_i hc
        cases m with
        | nil => rw [fit_nil, decide_eq_false (by omega)]
        | cons t m => obtain ⟨⟨k, s, q, ks⟩, i, f⟩ := t; rw [fit_cons, if_pos hc]
      · rfl
theorem lay_opn (w : Int) : ∀ (n : Nat) (l m : List Todo) (c : Int), msr l ≤ n → Opn l m → lay w l c = lay w m c := by
  intro n
  induction n with
  | zero =>
    intro l m c h ho
    cases ho with
    | nil => rfl
    | cons t h1 => have := cnt_pos t.1; simp only [msr] at h; omega
    | row s q h1 => simp only [msr, cntD] at h; omega
    | nest s h1 => simp only [msr, cntD] at h; omega
  | succ n ih =>
    intro l m c h ho
    cases ho with
    | nil => rfl
    | cons t ho =>
      rename_i l m
      obtain ⟨⟨k, s, q, kids⟩, i, f⟩ := t
      simp only [msr, cntD] at h
      have h1 := fun c => ih l m c (by omega) ho
      have h2 := fun i f => ih (kidsT kids i f ++ l) (kidsT kids i f ++ m) c (by rw [msr_kids]; omega) (ho.app _)
      have h3 := fun i f => fit_opn w (cntDs kids + msr l) (kidsT kids i f ++ l) (kidsT kids i f ++ m) c (by rw [msr_kids]; omega) (ho.app _)
      simp only [lay_cons, h1, h2, h3]
    | row s q ho =>
      rename_i kids i f l
      simp only [msr, cntD] at h
      rw [lay_cons, if_neg (show ¬ (7 : Int) = 1 by decide), if_neg (show ¬ (7 : Int) = 5 by decide), if_neg (show ¬ (7 : Int) = 6 by decide), if_pos rfl]
      exact ih _ m c (by rw [msr_kids]; omega) ho
    | nest s ho =>
      rename_i kids i f l
      simp only [msr, cntD] at h
      rw [lay_cons, if_neg (show ¬ (5 : Int) = 1 by decide), if_pos rfl, Int.add_zero]
      exact ih _ m c (by rw [msr_kids]; omega) ho
/-! What stands behind a Hard at the top. -/
abbrev hardT : Todo := (.mk 4 [] 0 [], 0, false)
theorem fit_hard (w : Int) (r : List Todo) : ∀ (n : Nat) (l : List Todo) (c : Int), msr l ≤ n → fit w (l ++ hardT :: r) c = fit w (l ++ [hardT]) c := by
  have h0 : ∀ (r : List Todo) c, fit w (hardT :: r) c = if c > w then false else true := fun r c => by
    rw [fit_cons, if_neg (show ¬ (4 : Int) = 1 by decide), if_neg (show ¬ ((4 : Int) = 2 ∨ (4 : Int) = 3) by decide), if_pos rfl]
  intro n
  induction n with
  | zero =>
    intro l c h
    cases l with
    | nil => rw [List.nil_append, List.nil_append, h0, h0]
    | cons t l => have := cnt_pos t.1; simp only [msr] at h; omega
  | succ n ih =>
    intro l c h
    cases l with
    | nil => rw [List.nil_append, List.nil_append, h0, h0]
    | cons t l =>
      obtain ⟨⟨k, s, q, kids⟩, i, f⟩ := t
      simp only [msr, cntD] at h
      have h1 := fun c => ih l c (by omega)
      have h2 := fun f => ih (kidsT kids i f ++ l) c (by rw [msr_kids]; omega)
      simp only [List.append_assoc] at h2
      simp only [List.cons_append, fit_cons, h1, h2]
theorem lay_hard (w : Int) (r : List Todo) : ∀ (n : Nat) (l : List Todo) (c : Int), msr l ≤ n → lay w (l ++ hardT :: r) c = lay w (l ++ [hardT]) c ++ lay w r 0 := by
  have h0 : ∀ (r : List Todo) c, lay w (hardT :: r) c = 10 :: lay w r 0 := fun r c => by
    rw [lay_cons, if_neg (show ¬ (4 : Int) = 1 by decide), if_neg (show ¬ (4 : Int) = 5 by decide), if_neg (show ¬ (4 : Int) = 6 by decide), if_neg (show ¬ (4 : Int) = 7 by decide), if_neg (by simp)]
    rfl
  intro n
  induction n with
  | zero =>
    intro l c h
    cases l with
    | nil => rw [List.nil_append, List.nil_append, h0, h0]; rfl
    | cons t l => have := cnt_pos t.1; simp only [msr] at h; omega
  | succ n ih =>
    intro l c h
    cases l with
    | nil => rw [List.nil_append, List.nil_append, h0, h0]; rfl
    | cons t l =>
      obtain ⟨⟨k, s, q, kids⟩, i, f⟩ := t
      simp only [msr, cntD] at h
      have h1 := fun c => ih l c (by omega)
      have h2 := fun i f => ih (kidsT kids i f ++ l) c (by rw [msr_kids]; omega)
      have h3 := fit_hard w r (cntDs kids + msr l) (kidsT kids i true ++ l) c (by rw [msr_kids]; omega)
      simp only [List.append_assoc] at h2 h3
      simp only [List.cons_append, lay_cons, h1, h2, h3]
      split
      · rw [List.append_assoc]
      split
      · rfl
      split
      · rfl
      split
      · rfl
      split
      · split <;> rfl
      · simp only [List.cons_append, List.append_assoc]
/-! What the law's Rows come to. -/
abbrev rowD (l : List Doc) : Doc := .mk 7 [] 0 l
theorem show_row {l : List Doc} {w : Int} (h1 : 1 ≤ w) (h2 : w ≤ 200) : showD (rowD l) w = if mayDs l = false then ([], 4) else (lay w (kidsT l 0 false) 0, 0) := by
  have hm : mayD (rowD l) = mayDs l := by
    show (okD 7 [] 0 l.isEmpty && mayDs l) = mayDs l
    rfl
  unfold showD
  rw [if_neg (by omega), hm]
  split
  · rfl
  · have e : layF w (cntD (rowD l)) [(rowD l, 0, false)] 0 = lay w [(rowD l, 0, false)] 0 := by
      have : msr [(rowD l, (0 : Int), false)] = cntD (rowD l) := by simp [msr]
      unfold lay; rw [this]
    rw [e, lay_cons, if_neg (show ¬ (7 : Int) = 1 by decide), if_neg (show ¬ (7 : Int) = 5 by decide), if_neg (show ¬ (7 : Int) = 6 by decide), if_pos rfl, List.append_nil]
theorem show_lay {d : Doc} {w : Int} (h1 : 1 ≤ w) (h2 : w ≤ 200) : showD d w = if mayD d = false then ([], 4) else (lay w [(d, 0, false)] 0, 0) := by
  have e : layF w (cntD d) [(d, 0, false)] 0 = lay w [(d, 0, false)] 0 := by
    have : msr [(d, (0 : Int), false)] = cntD d := by simp [msr]
    unfold lay; rw [this]
  unfold showD
  rw [if_neg (by omega), e]
theorem rows_same (x y : Doc) {w : Int} (h1 : 1 ≤ w) (h2 : w ≤ 200) : showD (rowD [rowD [x], rowD [rowD [], .mk 5 [] 0 [y]]]) w = showD (rowD [x, y]) w := by
  rw [show_row h1 h2, show_row h1 h2]
  have hm : mayDs [rowD [x], rowD [rowD [], .mk 5 [] 0 [y]]] = mayDs [x, y] := by
    simp only [mayDs, mayD, Bool.and_true]
    rfl
  rw [hm]
  have ho : Opn (kidsT [rowD [x], rowD [rowD [], .mk 5 [] 0 [y]]] 0 false) (kidsT [x, y] 0 false) := by
    refine Opn.row [] 0 (kids := [x]) ?_
    refine Opn.cons (x, 0, false) ?_
    refine Opn.row [] 0 (kids := [rowD [], .mk 5 [] 0 [y]]) ?_
    refine Opn.row [] 0 (kids := []) ?_
    refine Opn.nest [] (kids := [y]) ?_
    exact Opn.refl _
  rw [lay_opn w _ _ _ 0 (Nat.le_refl _) ho]
theorem rows_hard (x y : Doc) {w : Int} (h1 : 1 ≤ w) (h2 : w ≤ 200) (hm : mayDs [x, y] = true) :
    ∃ s t : List UInt8, showD (rowD [x, .mk 4 [] 0 [], y]) w = (s ++ t, 0) ∧ showD (rowD [x, .mk 4 [] 0 []]) w = (s, 0) ∧ showD y w = (t, 0) := by
  simp only [mayDs, Bool.and_true, Bool.and_eq_true] at hm
  have hh : mayD (.mk 4 [] 0 []) = true := rfl
  have m1 : mayDs [x, .mk 4 [] 0 [], y] = true := by simp only [mayDs, hm.1, hm.2, hh, Bool.and_true]
  have m2 : mayDs [x, .mk 4 [] 0 []] = true := by simp only [mayDs, hm.1, hh, Bool.and_true]
  refine ⟨lay w [(x, 0, false), hardT] 0, lay w [(y, 0, false)] 0, ?_, ?_, ?_⟩
  · rw [show_row h1 h2, if_neg (by rw [m1]; simp)]
    have := lay_hard w [(y, 0, false)] _ [(x, (0 : Int), false)] 0 (Nat.le_refl _)
    exact congrArg (·, (0 : Int)) this
  · rw [show_row h1 h2, if_neg (by rw [m2]; simp)]
    rfl
  · rw [show_lay h1 h2, if_neg (by rw [hm.2]; simp)]
end Go.Proofs.YteajphhelkdjnaaDoor.Vm
/- Layouts: a text without blanks and line's ends; the law LayoutTexts. -/
set_option maxRecDepth 100000
set_option linter.unusedSimpArgs false
namespace Go.Proofs.YteajphhelkdjnaaDoor.Vm
open Go Go.VM Go.Proofs

/-- What a loop's turn comes to. -/
def Lp {σ β : Type} (I : σ → Prop) (Q : β → Prop) : Sum σ β → Prop
  | .inl s => I s
  | .inr b => Q b
theorem Goes.inl {σ β : Type} {I : σ → Prop} {Q : β → Prop} {s : σ} (h : I s) : Goes (some (Sum.inl s : Sum σ β)) (Lp I Q) := ⟨_, rfl, h⟩
theorem Goes.inr {σ β : Type} {I : σ → Prop} {Q : β → Prop} {b : β} (h : Q b) : Goes (some (Sum.inr b : Sum σ β)) (Lp I Q) := ⟨_, rfl, h⟩
theorem Goes.upto {σ β : Type} {Q : β → Prop} {F : σ → Option (Sum σ β)} {n : Nat} {I : Nat → σ → Prop} (step : ∀ i s, i < n → I i s → Goes (F s) (Lp (I (i + 1)) Q))
    (last : ∀ s, I n s → Goes (F s) (Lp (fun _ => False) Q)) : ∀ (k i : Nat) (s : σ), i + k = n → I i s → Goes (loopO F s) Q := by
  intro k
  induction k with
  | zero =>
    intro i s hi h
    obtain ⟨r, e, hr⟩ := last s (by rw [← show i = n by omega]; exact h)
    cases r with
    | inl s' => exact hr.elim
    | inr b => exact ⟨b, loopO_inr e, hr⟩
  | succ k ih =>
    intro i s hi h
    obtain ⟨r, e, hr⟩ := step i s (by omega) h
    cases r with
    | inl s' => rw [loopO_inl e]; exact ih (i + 1) s' (by omega) hr
    | inr b => exact ⟨b, loopO_inr e, hr⟩
/-- How long what is written is, at most. -/
theorem layF_len (w : Int) (B : Nat) : ∀ (n : Nat) (l : List Todo) (c I : Int), msr l ≤ n → numsT l = true → Ind I l → 0 ≤ I → I + 200 * (msr l : Int) ≤ (B : Int) → (layF w n l c).length ≤ txt l + n * (1 + B)
  | 0, _, _, _, _, _, _, _, _ => by simp [layF]
  | _ + 1, [], _, _, _, _, _, _, _ => by simp [layF]
  | n + 1, (.mk k s m kids, i, f) :: l, c, I, h, hn, hI, h0, hB => by
    have hi := hI _ (List.mem_cons_self)
    dsimp only at hi
    have hIl : Ind I l := fun t ht => hI t (List.mem_cons_of_mem _ ht)
    simp only [numsT, numsD, Bool.and_eq_true] at hn
    obtain ⟨⟨hk, hks⟩, hnl⟩ := hn
    simp only [msr, cntD] at h hB
    have hm : k = 5 → 0 ≤ m ∧ m ≤ 200 := fun e => by
      subst e
      simp only [nokD, Bool.or_eq_true, Bool.and_eq_true, beq_iff_eq, decide_eq_true_eq] at hk
      omega
    have hmk : msr (kidsT kids i f ++ l) = cntDs kids + msr l := msr_kids ..
    have ih := fun c => layF_len w B n l c I (by omega) hnl hIl h0 (by omega)
    have ihk := fun f c => layF_len w B n (kidsT kids i f ++ l) c I (by rw [msr_kids]; omega) (numsT_kids hks hnl) (Ind_kids hIl hi.1 hi.2 (Int.le_refl _)) h0 (by rw [msr_kids]; omega)
    have hsm : (n + 1) * (1 + B) = n * (1 + B) + (1 + B) := Nat.succ_mul _ _
    simp only [txt_kids] at ihk
    simp only [layF, txt, txtD]
    by_cases k1 : k = 1
    · rw [if_pos k1, List.length_append]
      have := ih (c + chars s)
      omega
    rw [if_neg k1]
    by_cases k5 : k = 5
    · rw [if_pos k5]
      have hm := hm k5
      have := layF_len w B n (kidsT kids (i + m) f ++ l) c (I + 200) (by rw [msr_kids]; omega) (numsT_kids hks hnl) (Ind_kids hIl (by omega) (by omega) (by omega)) (by omega) (by rw [msr_kids]; omega)
      rw [txt_kids] at this
      omega
    rw [if_neg k5]
    by_cases k6 : k = 6
    · rw [if_pos k6]
      have := ihk (f || (!hardD (.mk k s m kids) && fitF w (msr (kidsT kids i true ++ l)) (kidsT kids i true ++ l) c)) c
      omega
    rw [if_neg k6]
    by_cases k7 : k = 7
    · rw [if_pos k7]
      have := ihk f c
      omega
    rw [if_neg k7]
    split
    · split
      · rw [List.length_cons]
        have := ih (c + 1)
        omega
      · have := ih c
        omega
    · rw [List.length_cons, List.length_append, List.length_replicate]
      have := ih i
      omega
theorem show_len {d : Doc} {w : Int} (h1 : cntD d ≤ 2000) (h2 : txtD d ≤ 100000) : (showD d w).1.length ≤ 1000000000000 := by
  unfold showD
  split
  · exact Nat.zero_le _
  · split
    · exact Nat.zero_le _
    · rename_i hm
      have hm : mayD d = true := by simpa using hm
      have hmsr : msr [(d, (0 : Int), false)] = cntD d := by simp [msr]
      have := layF_len w 400000 (cntD d) [(d, 0, false)] 0 0 (by omega) (by simp [numsT, may_nums d hm]) (by intro t h; simp at h; subst h; exact ⟨Int.le_refl _, Int.le_refl _⟩) (Int.le_refl _) (by rw [hmsr]; omega)
      have ht : txt [(d, (0 : Int), false)] = txtD d := by simp [txt]
      rw [ht] at this
      have h3 : cntD d * (1 + 400000) ≤ 2000 * (1 + 400000) := Nat.mul_le_mul_right _ h1
      show (layF w (cntD d) [(d, 0, false)] 0).length ≤ _
      omega
/-- A number within 1 and 200. -/
theorem width_in (n : Int) : ∃ w : Int, 1 ≤ w ∧ w ≤ 200 ∧ IntKind.wrap .i64 (1 + IntKind.wrap .i64 (Int.tmod (IntKind.wrap .u64 n) 200)) = w := by
  have hu : 0 ≤ IntKind.wrap .u64 n := by
    show 0 ≤ (if (false && decide (n % (2 ^ 64 : Int) ≥ (2 ^ 63 : Int))) = true then n % (2 ^ 64 : Int) - (2 ^ 64 : Int) else n % (2 ^ 64 : Int))
    simp only [Bool.false_and, Bool.false_eq_true, if_false]
    omega
  have ht : Int.tmod (IntKind.wrap .u64 n) 200 = IntKind.wrap .u64 n % 200 := Int.tmod_eq_emod_of_nonneg hu
  have h1 : IntKind.wrap .i64 (IntKind.wrap .u64 n % 200) = IntKind.wrap .u64 n % 200 := wrap_i64 (by omega) (by omega)
  have h2 : IntKind.wrap .i64 (1 + IntKind.wrap .u64 n % 200) = 1 + IntKind.wrap .u64 n % 200 := wrap_i64 (by omega) (by omega)
  exact ⟨1 + IntKind.wrap .u64 n % 200, by omega, by omega, by rw [ht, h1, h2]⟩
abbrev zeroC : List AV := [.int .u8 0, .str [], .int .i64 0, .nils]
theorem hatchS_of {β : Type} {st : St} {t : TypeId} {z : List AV} {nm : Nat} (K : Kv β) (h : st.get nm = .ok .egg) (hr : st.ro ≤ nm) : hatchS t z nm st K = K (.mp nm 0) (st.put nm (.cells t z)) ⟨[nm], .wrote nm (.cells t z)⟩ := by
  simp only [hatchS, VM.outS, hatchO, h, wroteO, Nat.ble_eq_true_of_le hr, bindO_ok]
/-- Two variables. -/
theorem two_vars (c1 c2 : List AV) (h1 : c1.length = 4) (h2 : c2.length = 4) : ∃ s3 s4 : St, ∃ x3 x4 : Fx, s4.get 0 = .ok (.cells 32 c1) ∧ s4.get 1 = .ok (.cells 32 c2) ∧ s4.ro = 0 ∧ s4.h = 2 ∧
    (∀ {β : Type} (K : Kv β), storeS (orc vE) 4 (.mp 0 0) (.agg c1) c1 ((((((St.mk 0 0 Tr.leaf).add .egg).add .egg).put 0 (.cells 32 zeroC)).put 1 (.cells 32 zeroC))) K = K VM.undef s3 x3) ∧
    (∀ {β : Type} (K : Kv β), storeS (orc vE) 4 (.mp 1 0) (.agg c2) c2 s3 K = K VM.undef s4 x4) := by
  have g0 : (((((St.mk 0 0 Tr.leaf).add .egg).add .egg).put 0 (.cells 32 zeroC)).put 1 (.cells 32 zeroC)).get 0 = .ok (.cells 32 zeroC) := rfl
  have g1 : (((((St.mk 0 0 Tr.leaf).add .egg).add .egg).put 0 (.cells 32 zeroC)).put 1 (.cells 32 zeroC)).get 1 = .ok (.cells 32 zeroC) := rfl
  have r0 : (((((St.mk 0 0 Tr.leaf).add .egg).add .egg).put 0 (.cells 32 zeroC)).put 1 (.cells 32 zeroC)).ro = 0 := rfl
  have hh : (((((St.mk 0 0 Tr.leaf).add .egg).add .egg).put 0 (.cells 32 zeroC)).put 1 (.cells 32 zeroC)).h = 2 := rfl
  generalize (((((St.mk 0 0 Tr.leaf).add .egg).add .egg).put 0 (.cells 32 zeroC)).put 1 (.cells 32 zeroC)) = s2 at g0 g1 r0 hh
  have e1 := fun {β : Type} (K : Kv β) => storeS_at (O := orc vE) (cs := c1) (z := 4) (off := 0) (v := .agg c1) g0 h1 (by rw [h1]; exact Nat.le_refl _) (by omega) K
  have sp1 : splice zeroC 0 c1 = c1 := splice_all h1
  have k1 : (s2.put 0 (.cells 32 c1)).get 1 = .ok (.cells 32 zeroC) := by rw [St.get_put_ne (by omega)]; exact g1
  have e2 := fun {β : Type} (K : Kv β) => storeS_at (O := orc vE) (cs := c2) (z := 4) (off := 0) (v := .agg c2) k1 h2 (by rw [h2]; exact Nat.le_refl _) (by show s2.ro ≤ 1; omega) K
  have sp2 : splice zeroC 0 c2 = c2 := splice_all h2
  simp only [sp1] at e1
  simp only [sp2] at e2
  refine ⟨s2.put 0 (.cells 32 c1), (s2.put 0 (.cells 32 c1)).put 1 (.cells 32 c2), _, _, ?_, ?_, r0, hh, e1, e2⟩
  · rw [St.get_put_ne (by omega)]; exact St.get_put_same (by omega)
  · exact St.get_put_same (by show 1 < s2.h; omega)
end Go.Proofs.YteajphhelkdjnaaDoor.Vm
set_option maxRecDepth 1000000
set_option maxHeartbeats 0
namespace Go.Proofs.YteajphhelkdjnaaDoor.Vm
open Go Go.VM Go.Proofs
/-- rostrum/rostrumlaw19.LayoutRows -/
noncomputable def g7 : AV → AV → AV → Option AV := fun x0 x1 x2 => unA x0 fun l1 => unc l1 fun v2 l3 => asI .u8 v2 fun n4 => unc l3 fun v5 l6 => asS v5 fun l7 => unc l6 fun v8 l9 => asI .i64 v8 fun n10 => unc l9 fun v11
 l12 => un0 l12 (unA x1 fun l14 => unc l14 fun v15 l16 => asI .u8 v15 fun n17 => unc l16 fun v18 l19 => asS v18 fun l20 => unc l19 fun v21 l22 => asI .i64 v21 fun n23 => unc l22 fun v24 l25 => un0 l25 (asI .i64 x2 fun
 n26 => asOne v11 (fit1 v11 fun v27 => asOne v24 (fit1 v24 fun v28 => bindO (callS (orc vE) 8 [AV.agg [AV.int .u8 n4, AV.str l7, AV.int .i64 n10, v27], AV.int .i64 300] (St.mk 0 0 Tr.leaf) fun v30 st31 _x => asI .i64 v30
 fun n33 => ifB (decide (n33 ≥ 300)) (some ([AV.bool true], st31)) (callS (orc vE) 8 [AV.agg [AV.int .u8 n17, AV.str l20, AV.int .i64 n23, v28], AV.int .i64 300] st31 fun v35 st36 _x => asI .i64 v35 fun n38 => ifB
 (decide (n38 ≥ 300)) (some ([AV.bool true], st36)) (callS (orc vE) 9 [] st36 fun v39 st40 _x => asB v39 fun b42 => some ([AV.bool !b42], st40)))) fun c43 => unc (Prod.fst c43) fun v44 l45 => asB v44 fun b46 => un0 l45
 (ifB b46 (callS (orc vE) 9 [] (Prod.snd c43) fun v47 _x _x_1 => asB v47 fun b50 => some (AV.bool b50)) (letSt (St.add (Prod.snd c43) Obj.egg) fun st55 => letSt (St.add st55 Obj.egg) fun st56 => callS (orc vE) 11 [AV.agg [AV.int .u8 n4, AV.str l7, AV.int .i64 n10, v27]] st56
 fun v58 st59 x60 => unA v58 fun l62 => unc l62 fun v63 l64 => asI .u8 v63 fun n65 => unc l64 fun v66 l67 => asS v66 fun l68 => unc l67 fun v69 l70 => asI .i64 v69 fun n71 => unc l70 fun v72 l73 => un0 l73 (chk (apart
 x60 (Fx.mk [] Did.kept) && true) (callS (orc vE) 11 [AV.agg [AV.int .u8 n17, AV.str l20, AV.int .i64 n23, v28]] st59 fun v75 st76 x77 => unA v75 fun l79 => unc l79 fun v80 l81 => asI .u8 v80 fun n82 => unc l81 fun v83
 l84 => asS v83 fun l85 => unc l84 fun v86 l87 => asI .i64 v86 fun n88 => unc l87 fun v89 l90 => un0 l90 (hatchS 32 [AV.int .u8 0, AV.str [], AV.int .i64 0, AV.nils] (St.h (Prod.snd c43)) st76 fun v91 st92 x93 => chk
 (apart x77 x93 && (apart (Fx.mk [] Did.kept) x93 && (apart x60 x93 && (apart (Fx.mk [] Did.kept) x93 && true)))) (hatchS 32 [AV.int .u8 0, AV.str [], AV.int .i64 0, AV.nils] ((St.h (Prod.snd c43)) + 1) st92 fun v94 st95
 x96 => chk (apart x93 x96 && (apart x77 x96 && (apart (Fx.mk [] Did.kept) x96 && (apart x60 x96 && (apart (Fx.mk [] Did.kept) x96 && true))))) (asOne v72 (storeS (orc vE) 4 v91 (AV.agg [AV.int .u8 n65, AV.str l68,
 AV.int .i64 n71, v72]) [AV.int .u8 n65, AV.str l68, AV.int .i64 n71, v72] st95 fun _x st98 _x_1 => asOne v89 (storeS (orc vE) 4 v94 (AV.agg [AV.int .u8 n82, AV.str l85, AV.int .i64 n88, v89]) [AV.int .u8 n82, AV.str
 l85, AV.int .i64 n88, v89] st98 fun _x st101 _x_2 => loadS 4 true v94 st101 fun v103 _x => unA v103 fun l106 => unc l106 fun v107 l108 => asI .u8 v107 fun n109 => unc l108 fun v110 l111 => asS v110 fun l112 => unc l111
 fun v113 l114 => asI .i64 v113 fun n115 => unc l114 fun v116 l117 => un0 l117 (asOne v116 (asOne v116 (fit1 v116 fun v118 => letSt (St.add st101 (VM.Obj.cells 32 [AV.int .u8 0, AV.str [], AV.int .i64 0, AV.nils])) fun
 st120 => storeS (orc vE) 4 (AV.mp (St.h st101) 0) (AV.agg [AV.int .u8 5, AV.str [], AV.int .i64 0, AV.sl 4 [AV.agg [AV.int .u8 n109, AV.str l112, AV.int .i64 n115, v118]] Perm.shut]) [AV.int .u8 5, AV.str [], AV.int
 .i64 0, AV.sl 4 [AV.agg [AV.int .u8 n109, AV.str l112, AV.int .i64 n115, v118]] Perm.shut] st120 fun _x st122 _x_3 => loadS 4 true v91 st122 fun v124 _x => unA v124 fun l127 => unc l127 fun v128 l129 => asI .u8 v128 fun
 n130 => unc l129 fun v131 l132 => asS v131 fun l133 => unc l132 fun v134 l135 => asI .i64 v134 fun n136 => unc l135 fun v137 l138 => un0 l138 (loadS 4 true v94 st122 fun v139 _x => unA v139 fun l142 => unc l142 fun v143
 l144 => asI .u8 v143 fun n145 => unc l144 fun v146 l147 => asS v146 fun l148 => unc l147 fun v149 l150 => asI .i64 v149 fun n151 => unc l150 fun v152 l153 => un0 l153 (asOne v137 (asOne v152 (asOne v137 (fit1 v137 fun
 v154 => asOne v152 (fit1 v152 fun v155 => callS (orc vE) 20 [AV.sl 4 [AV.agg [AV.int .u8 n130, AV.str l133, AV.int .i64 n136, v154], AV.agg [AV.int .u8 n145, AV.str l148, AV.int .i64 n151, v155]] Perm.shut] st122 fun
 v156 st157 _x => unA v156 fun l160 => unc l160 fun v161 l162 => asI .u8 v161 fun n163 => unc l162 fun v164 l165 => asS v164 fun l166 => unc l165 fun v167 l168 => asI .i64 v167 fun n169 => unc l168 fun v170 l171 => un0
 l171 (callS (orc vE) 10 [AV.agg [AV.int .u8 n163, AV.str l166, AV.int .i64 n169, v170], AV.int .i64 (IntKind.wrap .i64 (1 + (IntKind.wrap .i64 (Int.tmod (IntKind.wrap .u64 n26) 200))))] st157 fun v172 st173 _x => unT v172 fun l175 => nthS l175 0 fun v176 => asS v176 fun l177 => unT v172 fun l178 =>
 nthS l178 1 fun v179 => asI .i64 v179 fun n180 => loadS 4 true v91 st173 fun v181 _x => unA v181 fun l184 => unc l184 fun v185 l186 => asI .u8 v185 fun n187 => unc l186 fun v188 l189 => asS v188 fun l190 => unc l189 fun
 v191 l192 => asI .i64 v191 fun n193 => unc l192 fun v194 l195 => un0 l195 (asOne v194 (asOne v194 (fit1 v194 fun v196 => callS (orc vE) 20 [AV.sl 4 [AV.agg [AV.int .u8 n187, AV.str l190, AV.int .i64 n193, v196]]
 Perm.shut] st173 fun v197 st198 x199 => unA v197 fun l201 => unc l201 fun v202 l203 => asI .u8 v202 fun n204 => unc l203 fun v205 l206 => asS v205 fun l207 => unc l206 fun v208 l209 => asI .i64 v208 fun n210 => unc l209
 fun v211 l212 => un0 l212 (callS (orc vE) 20 [AV.nils] st198 fun v213 st214 x215 => unA v213 fun l217 => unc l217 fun v218 l219 => asI .u8 v218 fun n220 => unc l219 fun v221 l222 => asS v221 fun l223 => unc l222 fun
 v224 l225 => asI .i64 v224 fun n226 => unc l225 fun v227 l228 => un0 l228 (loadS 4 true (AV.mp (St.h st101) 0) st214 fun v229 l230 => unA v229 fun l232 => unc l232 fun v233 l234 => asI .u8 v233 fun n235 => unc l234 fun
 v236 l237 => asS v236 fun l238 => unc l237 fun v239 l240 => asI .i64 v239 fun n241 => unc l240 fun v242 l243 => un0 l243 (chk (apart x215 (Fx.mk l230 Did.kept) && (apart x199 (Fx.mk l230 Did.kept) && true)) (asOne v227
 (asOne v242 (asOne v227 (fit1 v227 fun v244 => asOne v242 (fit1 v242 fun v245 => callS (orc vE) 20 [AV.sl 4 [AV.agg [AV.int .u8 n220, AV.str l223, AV.int .i64 n226, v244], AV.agg [AV.int .u8 n235, AV.str l238, AV.int
 .i64 n241, v245]] Perm.shut] st214 fun v246 st247 x248 => unA v246 fun l250 => unc l250 fun v251 l252 => asI .u8 v251 fun n253 => unc l252 fun v254 l255 => asS v254 fun l256 => unc l255 fun v257 l258 => asI .i64 v257
 fun n259 => unc l258 fun v260 l261 => un0 l261 (asOne v211 (asOne v260 (asOne v211 (fit1 v211 fun v262 => asOne v260 (fit1 v260 fun v263 => callS (orc vE) 20 [AV.sl 4 [AV.agg [AV.int .u8 n204, AV.str l207, AV.int .i64
 n210, v262], AV.agg [AV.int .u8 n253, AV.str l256, AV.int .i64 n259, v263]] Perm.shut] st247 fun v264 st265 x266 => unA v264 fun l268 => unc l268 fun v269 l270 => asI .u8 v269 fun n271 => unc l270 fun v272 l273 => asS
 v272 fun l274 => unc l273 fun v275 l276 => asI .i64 v275 fun n277 => unc l276 fun v278 l279 => un0 l279 (chk (apart x266 (Fx.mk [] Did.kept) && (apart x248 (Fx.mk [] Did.kept) && (apart x215 (Fx.mk [] Did.kept) &&
 (apart x199 (Fx.mk [] Did.kept) && true)))) (callS (orc vE) 10 [AV.agg [AV.int .u8 n271, AV.str l274, AV.int .i64 n277, v278], AV.int .i64 (IntKind.wrap .i64 (1 + (IntKind.wrap .i64 (Int.tmod (IntKind.wrap .u64 n26) 200))))] st265 fun v280 st281 _x => unT v280 fun l283 => nthS l283 0 fun v284 => asS
 v284 fun l285 => unT v280 fun l286 => nthS l286 1 fun v287 => asI .i64 v287 fun n288 => bindO (ifB (!l177 == l285) (some ([AV.bool true], st281)) (some ([AV.bool (n180 != n288)], st281))) fun c289 => unc (Prod.fst c289)
 fun v290 l291 => asB v290 fun b292 => un0 l291 (ifB b292 (some (AV.bool false)) (ifB (n180 != 0) (some (AV.bool true)) (loadS 4 true v91 (Prod.snd c289) fun v293 l294 => unA v293 fun l296 => unc l296 fun v297 l298 =>
 asI .u8 v297 fun n299 => unc l298 fun v300 l301 => asS v300 fun l302 => unc l301 fun v303 l304 => asI .i64 v303 fun n305 => unc l304 fun v306 l307 => un0 l307 (callS (orc vE) 19 [AV.int .u8 4] (Prod.snd c289) fun v308
 st309 x310 => unA v308 fun l312 => unc l312 fun v313 l314 => asI .u8 v313 fun n315 => unc l314 fun v316 l317 => asS v316 fun l318 => unc l317 fun v319 l320 => asI .i64 v319 fun n321 => unc l320 fun v322 l323 => un0 l323
 (chk (apart (Fx.mk l294 Did.kept) x310 && true) (loadS 4 true v94 st309 fun v324 l325 => unA v324 fun l327 => unc l327 fun v328 l329 => asI .u8 v328 fun n330 => unc l329 fun v331 l332 => asS v331 fun l333 => unc l332
 fun v334 l335 => asI .i64 v334 fun n336 => unc l335 fun v337 l338 => un0 l338 (chk (apart x310 (Fx.mk l325 Did.kept) && true) (asOne v306 (asOne v322 (asOne v337 (asOne v306 (fit1 v306 fun v339 => asOne v322 (fit1 v322
 fun v340 => asOne v337 (fit1 v337 fun v341 => callS (orc vE) 20 [AV.sl 4 [AV.agg [AV.int .u8 n299, AV.str l302, AV.int .i64 n305, v339], AV.agg [AV.int .u8 n315, AV.str l318, AV.int .i64 n321, v340], AV.agg [AV.int .u8
 n330, AV.str l333, AV.int .i64 n336, v341]] Perm.shut] st309 fun v342 st343 x344 => unA v342 fun l346 => unc l346 fun v347 l348 => asI .u8 v347 fun n349 => unc l348 fun v350 l351 => asS v350 fun l352 => unc l351 fun
 v353 l354 => asI .i64 v353 fun n355 => unc l354 fun v356 l357 => un0 l357 (chk (apart x344 (Fx.mk [] Did.kept) && (apart x310 (Fx.mk [] Did.kept) && true)) (callS (orc vE) 10 [AV.agg [AV.int .u8 n349, AV.str l352,
 AV.int .i64 n355, v356], AV.int .i64 (IntKind.wrap .i64 (1 + (IntKind.wrap .i64 (Int.tmod (IntKind.wrap .u64 n26) 200))))] st343 fun v358 st359 _x => unT v358 fun l361 => nthS l361 0 fun v362 => asS v362 fun l363 => unT v358 fun l364 => nthS l364 1 fun v365 => asI .i64 v365 fun n366 => loadS 4 true
 v91 st359 fun v367 l368 => unA v367 fun l370 => unc l370 fun v371 l372 => asI .u8 v371 fun n373 => unc l372 fun v374 l375 => asS v374 fun l376 => unc l375 fun v377 l378 => asI .i64 v377 fun n379 => unc l378 fun v380
 l381 => un0 l381 (callS (orc vE) 19 [AV.int .u8 4] st359 fun v382 st383 x384 => unA v382 fun l386 => unc l386 fun v387 l388 => asI .u8 v387 fun n389 => unc l388 fun v390 l391 => asS v390 fun l392 => unc l391 fun v393
 l394 => asI .i64 v393 fun n395 => unc l394 fun v396 l397 => un0 l397 (chk (apart (Fx.mk l368 Did.kept) x384 && true) (asOne v380 (asOne v396 (asOne v380 (fit1 v380 fun v398 => asOne v396 (fit1 v396 fun v399 => callS
 (orc vE) 20 [AV.sl 4 [AV.agg [AV.int .u8 n373, AV.str l376, AV.int .i64 n379, v398], AV.agg [AV.int .u8 n389, AV.str l392, AV.int .i64 n395, v399]] Perm.shut] st383 fun v400 st401 x402 => unA v400 fun l404 => unc l404
 fun v405 l406 => asI .u8 v405 fun n407 => unc l406 fun v408 l409 => asS v408 fun l410 => unc l409 fun v411 l412 => asI .i64 v411 fun n413 => unc l412 fun v414 l415 => un0 l415 (chk (apart x402 (Fx.mk [] Did.kept) &&
 (apart x384 (Fx.mk [] Did.kept) && true)) (callS (orc vE) 10 [AV.agg [AV.int .u8 n407, AV.str l410, AV.int .i64 n413, v414], AV.int .i64 (IntKind.wrap .i64 (1 + (IntKind.wrap .i64 (Int.tmod (IntKind.wrap .u64 n26) 200))))] st401 fun v416 st417 _x => unT v416 fun l419 => nthS l419 0 fun v420 => asS
 v420 fun l421 => unT v416 fun l422 => nthS l422 1 fun v423 => asI .i64 v423 fun n424 => loadS 4 true v94 st417 fun v425 _x => unA v425 fun l428 => unc l428 fun v429 l430 => asI .u8 v429 fun n431 => unc l430 fun v432
 l433 => asS v432 fun l434 => unc l433 fun v435 l436 => asI .i64 v435 fun n437 => unc l436 fun v438 l439 => un0 l439 (callS (orc vE) 10 [AV.agg [AV.int .u8 n431, AV.str l434, AV.int .i64 n437, v438], AV.int .i64 (IntKind.wrap .i64 (1 + (IntKind.wrap .i64 (Int.tmod (IntKind.wrap .u64 n26) 200))))]
 st417 fun v440 st441 _x => unT v440 fun l443 => nthS l443 0 fun v444 => asS v444 fun l445 => unT v440 fun l446 => nthS l446 1 fun v447 => asI .i64 v447 fun n448 => bindO (ifB (n366 == 0) (ifB (n424 == 0) (ifB (n448 ==
 0) (chk (Nat.ble (List.length l421 + List.length l445) 9223372036854775807) (some ([AV.bool (l363 == (l421 ++ l445))], st441))) (some ([AV.bool false], st441))) (some ([AV.bool false], st441)))
 (some ([AV.bool false], st441))) fun c450 => unc (Prod.fst c450) fun v451 l452 => asB v451 fun b453 => un0 l452 (some (AV.bool b453)))))))))))))))))))))))))))))))))))))))))))))))))))))))))))))))))))))
theorem g7_eq (x0 x1 x2 : AV) : bareS vE 7 [x0, x1, x2] = g7 x0 x1 x2 := by kernel_rfl
end Go.Proofs.YteajphhelkdjnaaDoor.Vm
/- The law LayoutRows. -/
set_option maxRecDepth 100000
set_option linter.unusedSimpArgs false
set_option maxHeartbeats 0
namespace Go.Proofs.YteajphhelkdjnaaDoor.Vm
open Go Go.VM Go.Proofs

/-- A Row's value. -/
abbrev rowV (x : AV) : AV := .agg [.int .u8 7, .str [], .int .i64 0, x]
theorem row_ok {x : AV} {es : List AV} (hx : IsSl 4 x es) : (orc vE).bare 20 [x] = some (rowV x) := by
  refine bare_of rfl ((g20_eq _).trans ?_)
  have hf : Fz 2 (rowV x) := fz_agg fun c hc => by
    simp only [List.mem_cons, List.not_mem_nil, or_false] at hc
    rcases hc with rfl | rfl | rfl | rfl
    · exact fz_int _ _
    · exact fz_str _
    · exact fz_int _ _
    · exact fz_sl hx
  have hb : VM.bare (rowV x) = true := by simp only [bare_agg, bares_cons, hx.bare]; rfl
  simp only [g20, hx.asOne, frz_of hf (by omega) hb]
theorem call_row {x : AV} {es : List AV} (hx : IsSl 4 x es) {β : Type} (st : St) (K : Kv β) : callS (orc vE) 20 [x] st K = K (rowV x) st q0 :=
  callS_bare st K rfl (by simp only [List.map_cons, List.map_nil, hx.strip]) (by simp only [bares_cons, hx.bare]; rfl) (row_ok hx)
theorem call_hard {β : Type} (st : St) (K : Kv β) : callS (orc vE) 19 [.int .u8 4] st K = K (.agg [.int .u8 4, .str [], .int .i64 0, .nils]) st q0 :=
  callS_bare st K rfl rfl rfl (bare_of rfl ((g19_eq _).trans rfl))
theorem isDoc_row {x : AV} {es : List AV} {l : List Doc} (hx : IsSl 4 x es) (hl : IsDocs l es) : IsDoc (rowD l) (rowV x) := ⟨x, es, rfl, by omega, by simp, by omega, hx, hl⟩
theorem isDoc_hard : IsDoc (.mk 4 [] 0 []) (.agg [.int .u8 4, .str [], .int .i64 0, .nils]) := ⟨.nils, [], rfl, by omega, by simp, by omega, IsSl.nils, rfl⟩
theorem isDocs_nil : IsDocs [] [] := rfl
theorem isDocs_cons {d : Doc} {v : AV} {l : List Doc} {vs : List AV} (h : IsDoc d v) (k : IsDocs l vs) : IsDocs (d :: l) (v :: vs) := ⟨v, vs, rfl, h, k⟩
theorem shut4 (es : List AV) (h : es.length ≤ 100) : IsSl 4 (.sl 4 es .shut) es := IsSl.shut (by omega)
theorem law_rows {da db : Doc} {va vb : AV} (ha : IsDoc da va) (hb : IsDoc db vb) (m : Int) : (orc vE).bare 7 [va, vb, .int .i64 m] = some (.bool true) := by
  refine bare_of rfl ((g7_eq _ _ _).trans ?_)
  obtain ⟨r, hpa, hra⟩ := call_parts ha 300 (by omega)
  obtain ⟨q, hpb, hrb⟩ := call_parts hb 300 (by omega)
  have hpa : ∀ {β : Type} (st : St) (K : Kv β), callS (orc vE) 8 [va, .int .i64 300] st K = K (.int .i64 (r : Int)) st q0 := fun st K => hpa st K
  have hpb : ∀ {β : Type} (st : St) (K : Kv β), callS (orc vE) 8 [vb, .int .i64 300] st K = K (.int .i64 (q : Int)) st q0 := fun st K => hpb st K
  have hva := ha
  have hvb := hb
  obtain ⟨k1, s1, n1, kids1⟩ := da
  obtain ⟨k2, s2, n2, kids2⟩ := db
  obtain ⟨x1, es1, rfl, _, _, _, hx1, hes1⟩ := hva
  obtain ⟨x2, es2, rfl, _, _, _, hx2, hes2⟩ := hvb
  by_cases hga : (r : Int) ≥ 300
  · simp only [g7, unA_agg, unc_cons, asI_int, asS_str, un0_nil, hx1.asOne, hx1.fit1, hx2.asOne, hx2.fit1, hpa, ifB_decide, if_pos hga, bindO_ok, asB_bool, ifB_true, call_awake]
  by_cases hgb : (q : Int) ≥ 300
  · simp only [g7, unA_agg, unc_cons, asI_int, asS_str, un0_nil, hx1.asOne, hx1.fit1, hx2.asOne, hx2.fit1, hpa, hpb, ifB_decide, if_neg hga, if_pos hgb, bindO_ok, asB_bool, ifB_true, call_awake]
  have hca := hra (by omega)
  have hcb := hrb (by omega)
  have hcca := cnt_cost (.mk k1 s1 n1 kids1)
  have hccb := cnt_cost (.mk k2 s2 n2 kids2)
  obtain ⟨va', ha', hga'⟩ := call_given ha (by omega)
  obtain ⟨vb', hb', hgb'⟩ := call_given hb (by omega)
  obtain ⟨w, hw1, hw2, hw⟩ := width_in m
  have qa := ha'
  have qb := hb'
  obtain ⟨y1, fs1, rfl, _, _, _, hy1, _⟩ := qa
  obtain ⟨y2, fs2, rfl, _, _, _, hy2, _⟩ := qb
  generalize hda : (Doc.mk k1 s1 n1 kids1) = da at *
  generalize hdb : (Doc.mk k2 s2 n2 kids2) = db at *
  obtain ⟨s3, s4, x3, x4, g0, g1, r4, h4, e3, e4⟩ := two_vars [.int .u8 k1, .str s1, .int .i64 n1, y1] [.int .u8 k2, .str s2, .int .i64 n2, y2] rfl rfl
  have hh0 := fun {β : Type} (K : Kv β) => hatchS_of (st := ((St.mk 0 0 Tr.leaf).add .egg).add .egg) (t := 32) (z := zeroC) (nm := 0) K rfl (Nat.zero_le _)
  have hh1 := fun {β : Type} (K : Kv β) => hatchS_of (st := (((St.mk 0 0 Tr.leaf).add .egg).add .egg).put 0 (.cells 32 zeroC)) (t := 32) (z := zeroC) (nm := 0 + 1) K rfl (Nat.zero_le _)
  have ap1 : ∀ (i : Nat) (o : VM.Obj), apart q0 ⟨[i], .wrote i o⟩ = true := fun _ _ => rfl
  have ap2 : ∀ (i : Nat) (o : VM.Obj), apart (Fx.mk [] .kept) ⟨[i], .wrote i o⟩ = true := fun _ _ => rfl
  have ap3 : ∀ (o u : VM.Obj), apart ⟨[0], .wrote 0 o⟩ ⟨[0 + 1], .wrote (0 + 1) u⟩ = true := fun _ _ => rfl
  have t1 : takeO 4 true [AV.int .u8 k1, AV.str s1, AV.int .i64 n1, y1] = some (.agg [AV.int .u8 k1, AV.str s1, AV.int .i64 n1, y1]) := rfl
  have t2 : takeO 4 true [AV.int .u8 k2, AV.str s2, AV.int .i64 n2, y2] = some (.agg [AV.int .u8 k2, AV.str s2, AV.int .i64 n2, y2]) := rfl
  -- the values
  have hxy := isDocs_cons ha' (isDocs_cons hb' isDocs_nil)
  have l1 := shut4 [.agg [.int .u8 k1, .str s1, .int .i64 n1, y1], .agg [.int .u8 k2, .str s2, .int .i64 n2, y2]] (by simp)
  have dxy := isDoc_row l1 hxy
  have lz := shut4 [.agg [.int .u8 k2, .str s2, .int .i64 n2, y2]] (by simp)
  have dz : IsDoc (.mk 5 [] 0 [db]) (.agg [.int .u8 5, .str [], .int .i64 0, .sl 4 [.agg [.int .u8 k2, .str s2, .int .i64 n2, y2]] .shut]) := ⟨_, _, rfl, by omega, by simp, by omega, lz, isDocs_cons hb' isDocs_nil⟩
  have lx := shut4 [.agg [.int .u8 k1, .str s1, .int .i64 n1, y1]] (by simp)
  have dx := isDoc_row lx (isDocs_cons ha' isDocs_nil)
  have d0 := isDoc_row (x := .nils) IsSl.nils isDocs_nil
  have l2 := shut4 [rowV .nils, .agg [.int .u8 5, .str [], .int .i64 0, .sl 4 [.agg [.int .u8 k2, .str s2, .int .i64 n2, y2]] .shut]] (by simp)
  have d2 := isDoc_row l2 (isDocs_cons d0 (isDocs_cons dz isDocs_nil))
  have l3 := shut4 [rowV (.sl 4 [.agg [.int .u8 k1, .str s1, .int .i64 n1, y1]] .shut), rowV (.sl 4 [rowV .nils, .agg [.int .u8 5, .str [], .int .i64 0, .sl 4 [.agg [.int .u8 k2, .str s2, .int .i64 n2, y2]] .shut]] .shut)] (by simp)
  have d3 := isDoc_row l3 (isDocs_cons dx (isDocs_cons d2 isDocs_nil))
  have l4 := shut4 [.agg [.int .u8 k1, .str s1, .int .i64 n1, y1], .agg [.int .u8 4, .str [], .int .i64 0, .nils], .agg [.int .u8 k2, .str s2, .int .i64 n2, y2]] (by simp)
  have d4 := isDoc_row l4 (isDocs_cons ha' (isDocs_cons isDoc_hard (isDocs_cons hb' isDocs_nil)))
  have l5 := shut4 [.agg [.int .u8 k1, .str s1, .int .i64 n1, y1], .agg [.int .u8 4, .str [], .int .i64 0, .nils]] (by simp)
  have d5 := isDoc_row l5 (isDocs_cons ha' (isDocs_cons isDoc_hard isDocs_nil))
  have cn : ∀ l : List Doc, cntD (rowD l) = 1 + cntDs l := fun l => rfl
  have tn : ∀ l : List Doc, txtD (rowD l) = txtDs l := fun l => by show ([] : List UInt8).length + txtDs l = _; simp
  have c4 : cntD (.mk 4 [] 0 []) = 1 := rfl
  have t4 : txtD (.mk 4 [] 0 []) = 0 := rfl
  have c5 : cntD (.mk 5 [] 0 [db]) = 1 + cntD db := by simp [cntD, cntDs]
  have t5 : txtD (.mk 5 [] 0 [db]) = txtD db := by simp [txtD, txtDs]
  have sxy := fun {β : Type} (st : St) (K : Kv β) => call_show dxy w (by simp only [cn, cntDs]; omega) (by simp only [tn, txtDs]; omega) st K
  have s3' := fun {β : Type} (st : St) (K : Kv β) => call_show d3 w (by simp only [cn, cntDs, c5]; omega) (by simp only [tn, txtDs, t5]; omega) st K
  have s4' := fun {β : Type} (st : St) (K : Kv β) => call_show d4 w (by simp only [cn, cntDs, c4]; omega) (by simp only [tn, txtDs, t4]; omega) st K
  have s5' := fun {β : Type} (st : St) (K : Kv β) => call_show d5 w (by simp only [cn, cntDs, c4]; omega) (by simp only [tn, txtDs, t4]; omega) st K
  have sy' := fun {β : Type} (st : St) (K : Kv β) => call_show hb' w (by omega) (by omega) st K
  have lenv := show_len (d := rowD [da, .mk 4 [] 0 []]) (w := w) (by simp only [cn, cntDs, c4]; omega) (by simp only [tn, txtDs, t4]; omega)
  have leny := show_len (d := db) (w := w) (by omega) (by omega)
  have hsame := rows_same da db hw1 hw2
  rw [hsame] at s3'
  have hmay := show_row (l := [da, db]) hw1 hw2
  -- the variable 'zero'
  obtain ⟨s5, g5, k5, n5, fx5, e5⟩ := local_var (O := orc vE) (st := s4) (t := 32) (z := 4) (old := zeroC) (cs := [.int .u8 5, .str [], .int .i64 0, .sl 4 [.agg [.int .u8 k2, .str s2, .int .i64 n2, y2]] .shut]) (.agg [.int .u8 5, .str [], .int .i64 0, .sl 4 [.agg [.int .u8 k2, .str s2, .int .i64 n2, y2]] .shut]) rfl rfl (by omega)
  have g50 := k5.old _ _ (fun f => f) g0
  have g51 := k5.old _ _ (fun f => f) g1
  have ld1 := fun {β : Type} (K : AV → List Nat → Option β) => loadS_mp g1 4 true 0 K
  have ld50 := fun {β : Type} (K : AV → List Nat → Option β) => loadS_mp g50 4 true 0 K
  have ld51 := fun {β : Type} (K : AV → List Nat → Option β) => loadS_mp g51 4 true 0 K
  have ldz := fun {β : Type} (K : AV → List Nat → Option β) => loadS_mp g5 4 true 0 K
  have tz : takeO 4 true [AV.int .u8 5, AV.str [], AV.int .i64 0, AV.sl 4 [AV.agg [AV.int .u8 k2, AV.str s2, AV.int .i64 n2, y2]] Perm.shut] = some (.agg [AV.int .u8 5, AV.str [], AV.int .i64 0, AV.sl 4 [AV.agg [AV.int .u8 k2, AV.str s2, AV.int .i64 n2, y2]] Perm.shut]) := rfl
  have cr1 := fun {β : Type} (st : St) (K : Kv β) => call_row l1 st K
  have crx := fun {β : Type} (st : St) (K : Kv β) => call_row lx st K
  have cr0 := fun {β : Type} (st : St) (K : Kv β) => call_row (x := .nils) IsSl.nils st K
  have cr2 := fun {β : Type} (st : St) (K : Kv β) => call_row l2 st K
  have cr3 := fun {β : Type} (st : St) (K : Kv β) => call_row l3 st K
  have cr4 := fun {β : Type} (st : St) (K : Kv β) => call_row l4 st K
  have cr5 := fun {β : Type} (st : St) (K : Kv β) => call_row l5 st K
  simp (maxSteps := 4000000) only [g7, unA_agg, unc_cons, asI_int, asS_str, un0_nil, hx1.asOne, hx1.fit1, hx2.asOne, hx2.fit1, hpa, hpb, ifB_decide, if_neg hga, if_neg hgb, call_awake, bindO_ok, asB_bool, Bool.not_true, ifB_false, letSt_eq, hga', hgb', apart_kept, apart_kept2, Bool.and_self, chk_true]
  simp (maxSteps := 2000000) only [hh0, hh1, ap1, ap2, ap3, Bool.and_self, chk_true, hy1.asOne, hy2.asOne, hy1.fit1, hy2.fit1, e3, e4, ld1, List.drop_zero, t2, unA_agg, unc_cons, asI_int, asS_str, un0_nil, bindO_ok, e5]
  simp (maxSteps := 2000000) only [ld50, ld51, List.drop_zero, t1, t2, unA_agg, unc_cons, asI_int, asS_str, un0_nil, bindO_ok, hy1.asOne, hy2.asOne, hy1.fit1, hy2.fit1, cr1, hw, sxy, unT_tup, nthS_zero, nthS_one, crx, cr0, ldz, tz, apart_kept, apart_kept2, Bool.and_self, chk_true, lx.asOne, lx.fit1, lz.asOne, lz.fit1, l2.asOne, l2.fit1, (show IsSl 4 AV.nils [] from IsSl.nils).asOne, (show IsSl 4 AV.nils [] from IsSl.nils).fit1, cr2, cr3, s3', beq_self_eq_true, bne_self_eq_false, Bool.not_true, ifB_false, asB_bool]
  cases hm : mayDs [da, db] with
  | false =>
    rw [hm, if_pos rfl] at hmay
    have c1 : (((showD (rowD [da, db]) w).2) != 0) = true := by rw [hmay]; rfl
    simp only [c1, ifB_true]
  | true =>
    rw [hm, if_neg (by simp)] at hmay
    have c1 : (((showD (rowD [da, db]) w).2) != 0) = false := by rw [hmay]; rfl
    obtain ⟨u, t, h1, h2, h3⟩ := rows_hard da db hw1 hw2 hm
    rw [h2] at lenv
    rw [h3] at leny
    have hch : Nat.ble (u.length + t.length) 9223372036854775807 = true := Nat.ble_eq_true_of_le (by dsimp only at lenv leny; omega)
    simp (maxSteps := 2000000) only [c1, ifB_false, ld50, ld51, List.drop_zero, t1, t2, unA_agg, unc_cons, asI_int, asS_str, un0_nil, bindO_ok, call_hard, apart_kept, apart_kept2, Bool.and_self, chk_true, hy1.asOne, hy2.asOne, hy1.fit1, hy2.fit1, (show IsSl 4 AV.nils [] from IsSl.nils).asOne, (show IsSl 4 AV.nils [] from IsSl.nils).fit1, cr4, cr5, s4', s5', sy', unT_tup, nthS_zero, nthS_one, h1, h2, h3, beq_self_eq_true, ifB_true, hch, letV_eq, asB_bool]
end Go.Proofs.YteajphhelkdjnaaDoor.Vm
