/-
  LayoutOne: a Group whose flat text has no more characters than the width is written so, for every input. (A part of the proof: Env, F, L0, L1, L2, L3, L4, L5, L6, L7, L8, L9, L10.)
-/
import Derived.Test.YteajphhelkdjnaaDoorVmBC
import Derived.Test.YteajphhelkdjnaaDoorVmBI
import Derived.Test.YteajphhelkdjnaaDoorVmBJ
import Derived.Test.YteajphhelkdjnaaDoorVmBF
import Derived.Test.YteajphhelkdjnaaDoorVmAI
import Derived.Test.YteajphhelkdjnaaDoorVmAJ
import Derived.Test.YteajphhelkdjnaaDoorVmBH
import Derived.Test.YteajphhelkdjnaaDoorVmBE
import Derived.Test.YteajphhelkdjnaaDoorRows
import Derived.KernelRfl
set_option maxRecDepth 1000000
set_option maxHeartbeats 0
namespace Go.Proofs.YteajphhelkdjnaaDoor.Vm
open Go Go.VM Go.Proofs
noncomputable def vT : TT := (.node none (.node (some ⟨.func, 1, 8, [.nilfn], false, false⟩) (.node (some ⟨(.int .i64), 1, 8, [(.int .i64 (0))], false, false⟩) (.node (some ⟨(.struct [(0, 2), (1, 3), (2, 4), (3, 6)]), 4, 24, [(.int .i64 (0)), (.int .i64 (0)), (.bool false), (.int .u8 (0))], true, true⟩) (.node (some ⟨(.ptr 108), 1, 8, [.nilp], false, false⟩) (.node (some ⟨(.struct [(0, 5), (1, 9), (2, 3), (3, 30)]), 4, 56, [(.int .u8 (0)), (.str []), (.int .i64 (0)), .nils], true, true⟩) (.node (some ⟨(.struct [(0, 24), (4, 3), (5, 4)]), 6, 72, [(.int .u8 (0)), (.str []), (.int .i64 (0)), .nils, (.int .i64 (0)), (.bool false)], true, true⟩) .leaf .leaf) (.node (some ⟨.func, 1, 8, [.nilfn], false, false⟩) .leaf .leaf)) (.node (some ⟨.func, 1, 8, [.nilfn], false, false⟩) (.node (some ⟨(.arr 256 5), 256, 256, [(.int .u8 (0)), (.int .u8 (0)), (.int .u8 (0)), (.int .u8 (0)), (.int .u8 (0)), (.int .u8 (0)), (.int .u8 (0)), (.int .u8 (0)), (.int .u8 (0)), (.int .u8 (0)), (.int .u8 (0)), (.int .u8 (0)), (.int .u8 (0)), (.int .u8 (0)), (.int .u8 (0)), (.int .u8 (0)), (.int .u8 (0)), (.int .u8 (0)), (.int .u8 (0)), (.int .u8 (0)), (.int .u8 (0)), (.int .u8 (0)), (.int .u8 (0)), (.int .u8 (0)), (.int .u8 (0)), (.int .u8 (0)), (.int .u8 (0)), (.int .u8 (0)), (.int .u8 (0)), (.int .u8 (0)), (.int .u8 (0)), (.int .u8 (0)), (.int .u8 (0)), (.int .u8 (0)), (.int .u8 (0)), (.int .u8 (0)), (.int .u8 (0)), (.int .u8 (0)), (.int .u8 (0)), (.int .u8 (0)), (.int .u8 (0)), (.int .u8 (0)), (.int .u8 (0)), (.int .u8 (0)), (.int .u8 (0)), (.int .u8 (0)), (.int .u8 (0)), (.int .u8 (0)), (.int .u8 (0)), (.int .u8 (0)), (.int .u8 (0)), (.int .u8 (0)), (.int .u8 (0)), (.int .u8 (0)), (.int .u8 (0)), (.int .u8 (0)), (.int .u8 (0)), (.int .u8 (0)), (.int .u8 (0)), (.int .u8 (0)), (.int .u8 (0)), (.int .u8 (0)), (.int .u8 (0)), (.int .u8 (0)), (.int .u8 (0)), (.int .u8 (0)), (.int .u8 (0)), (.int .u8 (0)), (.int .u8 (0)), (.int .u8 (0)), (.int .u8 (0)), (.int .u8 (0)), (.int .u8 (0)), (.int .u8 (0)), (.int .u8 (0)), (.int .u8 (0)), (.int .u8 (0)), (.int .u8 (0)), (.int .u8 (0)), (.int .u8 (0)), (.int .u8 (0)), (.int .u8 (0)), (.int .u8 (0)), (.int .u8 (0)), (.int .u8 (0)), (.int .u8 (0)), (.int .u8 (0)), (.int .u8 (0)), (.int .u8 (0)), (.int .u8 (0)), (.int .u8 (0)), (.int .u8 (0)), (.int .u8 (0)), (.int .u8 (0)), (.int .u8 (0)), (.int .u8 (0)), (.int .u8 (0)), (.int .u8 (0)), (.int .u8 (0)), (.int .u8 (0)), (.int .u8 (0)), (.int .u8 (0)), (.int .u8 (0)), (.int .u8 (0)), (.int .u8 (0)), (.int .u8 (0)), (.int .u8 (0)), (.int .u8 (0)), (.int .u8 (0)), (.int .u8 (0)), (.int .u8 (0)), (.int .u8 (0)), (.int .u8 (0)), (.int .u8 (0)), (.int .u8 (0)), (.int .u8 (0)), (.int .u8 (0)), (.int .u8 (0)), (.int .u8 (0)), (.int .u8 (0)), (.int .u8 (0)), (.int .u8 (0)), (.int .u8 (0)), (.int .u8 (0)), (.int .u8 (0)), (.int .u8 (0)), (.int .u8 (0)), (.int .u8 (0)), (.int .u8 (0)), (.int .u8 (0)), (.int .u8 (0)), (.int .u8 (0)), (.int .u8 (0)), (.int .u8 (0)), (.int .u8 (0)), (.int .u8 (0)), (.int .u8 (0)), (.int .u8 (0)), (.int .u8 (0)), (.int .u8 (0)), (.int .u8 (0)), (.int .u8 (0)), (.int .u8 (0)), (.int .u8 (0)), (.int .u8 (0)), (.int .u8 (0)), (.int .u8 (0)), (.int .u8 (0)), (.int .u8 (0)), (.int .u8 (0)), (.int .u8 (0)), (.int .u8 (0)), (.int .u8 (0)), (.int .u8 (0)), (.int .u8 (0)), (.int .u8 (0)), (.int .u8 (0)), (.int .u8 (0)), (.int .u8 (0)), (.int .u8 (0)), (.int .u8 (0)), (.int .u8 (0)), (.int .u8 (0)), (.int .u8 (0)), (.int .u8 (0)), (.int .u8 (0)), (.int .u8 (0)), (.int .u8 (0)), (.int .u8 (0)), (.int .u8 (0)), (.int .u8 (0)), (.int .u8 (0)), (.int .u8 (0)), (.int .u8 (0)), (.int .u8 (0)), (.int .u8 (0)), (.int .u8 (0)), (.int .u8 (0)), (.int .u8 (0)), (.int .u8 (0)), (.int .u8 (0)), (.int .u8 (0)), (.int .u8 (0)), (.int .u8 (0)), (.int .u8 (0)), (.int .u8 (0)), (.int .u8 (0)), (.int .u8 (0)), (.int .u8 (0)), (.int .u8 (0)), (.int .u8 (0)), (.int .u8 (0)), (.int .u8 (0)), (.int .u8 (0)), (.int .u8 (0)), (.int .u8 (0)), (.int .u8 (0)), (.int .u8 (0)), (.int .u8 (0)), (.int .u8 (0)), (.int .u8 (0)), (.int .u8 (0)), (.int .u8 (0)), (.int .u8 (0)), (.int .u8 (0)), (.int .u8 (0)), (.int .u8 (0)), (.int .u8 (0)), (.int .u8 (0)), (.int .u8 (0)), (.int .u8 (0)), (.int .u8 (0)), (.int .u8 (0)), (.int .u8 (0)), (.int .u8 (0)), (.int .u8 (0)), (.int .u8 (0)), (.int .u8 (0)), (.int .u8 (0)), (.int .u8 (0)), (.int .u8 (0)), (.int .u8 (0)), (.int .u8 (0)), (.int .u8 (0)), (.int .u8 (0)), (.int .u8 (0)), (.int .u8 (0)), (.int .u8 (0)), (.int .u8 (0)), (.int .u8 (0)), (.int .u8 (0)), (.int .u8 (0)), (.int .u8 (0)), (.int .u8 (0)), (.int .u8 (0)), (.int .u8 (0)), (.int .u8 (0)), (.int .u8 (0)), (.int .u8 (0)), (.int .u8 (0)), (.int .u8 (0)), (.int .u8 (0)), (.int .u8 (0)), (.int .u8 (0)), (.int .u8 (0)), (.int .u8 (0)), (.int .u8 (0)), (.int .u8 (0)), (.int .u8 (0)), (.int .u8 (0)), (.int .u8 (0)), (.int .u8 (0)), (.int .u8 (0)), (.int .u8 (0)), (.int .u8 (0)), (.int .u8 (0))], true, false⟩) .leaf .leaf) (.node (some ⟨(.struct [(0, 109)]), 0, 0, [], true, false⟩) .leaf .leaf))) (.node (some ⟨(.struct [(0, 5), (1, 9), (2, 3), (3, 22)]), 4, 56, [(.int .u8 (0)), (.str []), (.int .i64 (0)), .nils], true, true⟩) (.node (some ⟨.func, 1, 8, [.nilfn], false, false⟩) (.node none .leaf .leaf) (.node none .leaf .leaf)) (.node (some ⟨(.struct [(0, 54), (2, 3), (3, 3)]), 4, 48, [.nilp, .nils, (.int .i64 (0)), (.int .i64 (0))], true, true⟩) (.node (some ⟨(.iface false), 1, 16, [.nili], false, false⟩) .leaf .leaf) (.node none .leaf .leaf)))) (.node (some ⟨.str, 1, 16, [(.str [])], false, false⟩) (.node (some ⟨(.struct [(0, 17)]), 1, 8, [.nilp], true, false⟩) (.node none (.node (some ⟨.func, 1, 8, [.nilfn], false, false⟩) .leaf .leaf) (.node (some ⟨.func, 1, 8, [.nilfn], false, false⟩) .leaf .leaf)) (.node (some ⟨(.ptr 54), 1, 8, [.nilp], false, false⟩) (.node (some ⟨.func, 1, 8, [.nilfn], false, false⟩) .leaf .leaf) (.node (some ⟨(.int .i32), 1, 4, [(.int .i32 (0))], false, false⟩) .leaf .leaf))) (.node (some ⟨(.int .i64), 1, 8, [(.int .i64 (0))], false, false⟩) (.node (some ⟨.func, 1, 8, [.nilfn], false, false⟩) (.node (some ⟨.func, 1, 8, [.nilfn], false, false⟩) .leaf .leaf) (.node (some ⟨(.struct [(0, 17), (1, 17), (2, 17), (3, 9)]), 4, 40, [.nilp, .nilp, .nilp, (.str [])], true, false⟩) .leaf .leaf)) (.node (some ⟨(.struct [(0, 32), (4, 3), (5, 4)]), 6, 72, [(.int .u8 (0)), (.str []), (.int .i64 (0)), .nils, (.int .i64 (0)), (.bool false)], true, true⟩) (.node (some ⟨(.ptr 5), 1, 8, [.nilp], false, false⟩) .leaf .leaf) (.node none .leaf .leaf))))) (.node (some ⟨(.int .u8), 1, 1, [(.int .u8 (0))], false, false⟩) (.node (some ⟨.str, 1, 16, [(.str [])], false, false⟩) (.node (some ⟨(.ptr 118), 1, 8, [.nilp], false, false⟩) (.node (some ⟨.func, 1, 8, [.nilfn], false, false⟩) (.node (some ⟨(.slice 64), 1, 24, [.nils], false, false⟩) .leaf .leaf) (.node (some ⟨.func, 1, 8, [.nilfn], false, false⟩) .leaf .leaf)) (.node (some ⟨.func, 1, 8, [.nilfn], false, false⟩) (.node (some ⟨(.struct [(0, 5), (1, 5)]), 2, 2, [(.int .u8 (0)), (.int .u8 (0))], true, true⟩) .leaf .leaf) (.node (some ⟨(.int .u8), 1, 1, [(.int .u8 (0))], false, false⟩) .leaf .leaf))) (.node (some ⟨.func, 1, 8, [.nilfn], false, false⟩) (.node (some ⟨.func, 1, 8, [.nilfn], false, false⟩) (.node (some ⟨.func, 1, 8, [.nilfn], false, false⟩) .leaf .leaf) (.node (some ⟨.func, 1, 8, [.nilfn], false, false⟩) .leaf .leaf)) (.node (some ⟨.func, 1, 8, [.nilfn], false, false⟩) (.node (some ⟨.func, 1, 8, [.nilfn], false, false⟩) .leaf .leaf) (.node none .leaf .leaf)))) (.node (some ⟨(.struct [(0, 9), (1, 12)]), 2, 24, [(.str []), (.int .u64 (0))], true, false⟩) (.node (some ⟨(.int .i32), 1, 4, [(.int .i32 (0))], false, false⟩) (.node (some ⟨.func, 1, 8, [.nilfn], false, false⟩) (.node (some ⟨.func, 1, 8, [.nilfn], false, false⟩) .leaf .leaf) (.node none .leaf .leaf)) (.node (some ⟨(.struct [(0, 51), (1, 52)]), 2, 32, [.nilp, .nils], true, true⟩) (.node (some ⟨.func, 1, 8, [.nilfn], false, false⟩) .leaf .leaf) (.node (some ⟨(.struct [(0, 12), (1, 12), (2, 100), (3, 112), (4, 5), (5, 5), (6, 113), (7, 114), (8, 91), (9, 115), (10, 116)]), 11, 48, [(.int .u64 (0)), (.int .u64 (0)), (.int .u32 (0)), (.int .u8 (0)), (.int .u8 (0)), (.int .u8 (0)), (.int .u8 (0)), .nilfn, .nilp, (.int .i32 (0)), (.int .i32 (0))], true, false⟩) .leaf .leaf))) (.node (some ⟨.func, 1, 8, [.nilfn], false, false⟩) (.node (some ⟨.func, 1, 8, [.nilfn], false, false⟩) (.node (some ⟨.func, 1, 8, [.nilfn], false, false⟩) .leaf .leaf) (.node (some ⟨(.arr 0 16), 0, 0, [], true, false⟩) .leaf .leaf)) (.node (some ⟨(.slice 59), 1, 24, [.nils], false, false⟩) (.node none .leaf .leaf) (.node none .leaf .leaf)))))) (.node (some ⟨(.int .i64), 1, 8, [(.int .i64 (0))], false, false⟩) (.node (some ⟨.bool, 1, 1, [(.bool false)], false, false⟩) (.node (some ⟨(.struct [(0, 2), (1, 3), (2, 4), (3, 6)]), 4, 24, [(.int .i64 (0)), (.int .i64 (0)), (.bool false), (.int .u8 (0))], true, true⟩) (.node (some ⟨(.ptr 111), 1, 8, [.nilp], false, false⟩) (.node (some ⟨(.struct [(0, 5), (1, 9), (2, 3), (3, 30)]), 4, 56, [(.int .u8 (0)), (.str []), (.int .i64 (0)), .nils], true, true⟩) (.node (some ⟨(.struct [(0, 24), (4, 3), (5, 4)]), 6, 72, [(.int .u8 (0)), (.str []), (.int .i64 (0)), .nils, (.int .i64 (0)), (.bool false)], true, true⟩) .leaf .leaf) (.node (some ⟨.func, 1, 8, [.nilfn], false, false⟩) .leaf .leaf)) (.node (some ⟨.func, 1, 8, [.nilfn], false, false⟩) (.node (some ⟨(.struct [(0, 5), (1, 5)]), 2, 2, [(.int .u8 (0)), (.int .u8 (0))], true, true⟩) .leaf .leaf) (.node (some ⟨(.int .u8), 1, 1, [(.int .u8 (0))], false, false⟩) .leaf .leaf))) (.node (some ⟨(.struct [(0, 5), (1, 9), (2, 3), (3, 22)]), 4, 56, [(.int .u8 (0)), (.str []), (.int .i64 (0)), .nils], true, true⟩) (.node (some ⟨.func, 1, 8, [.nilfn], false, false⟩) (.node (some ⟨.func, 1, 8, [.nilfn], false, false⟩) .leaf .leaf) (.node (some ⟨.func, 1, 8, [.nilfn], false, false⟩) .leaf .leaf)) (.node (some ⟨(.struct [(0, 54), (2, 3), (3, 3)]), 4, 48, [.nilp, .nils, (.int .i64 (0)), (.int .i64 (0))], true, true⟩) (.node none .leaf .leaf) (.node none .leaf .leaf)))) (.node (some ⟨(.int .u64), 1, 8, [(.int .u64 (0))], false, false⟩) (.node (some ⟨(.iface true), 1, 16, [.nili], false, false⟩) (.node (some ⟨.func, 1, 8, [.nilfn], false, false⟩) (.node (some ⟨.func, 1, 8, [.nilfn], false, false⟩) .leaf .leaf) (.node (some ⟨(.int .u32), 1, 4, [(.int .u32 (0))], false, false⟩) .leaf .leaf)) (.node (some ⟨(.slice 5), 1, 24, [.nils], false, false⟩) (.node (some ⟨.func, 1, 8, [.nilfn], false, false⟩) .leaf .leaf) (.node (some ⟨(.int .i32), 1, 4, [(.int .i32 (0))], false, false⟩) .leaf .leaf))) (.node none (.node (some ⟨(.int .u64), 1, 8, [(.int .u64 (0))], false, false⟩) (.node (some ⟨.func, 1, 8, [.nilfn], false, false⟩) .leaf .leaf) (.node (some ⟨(.struct [(0, 17), (1, 17), (2, 17), (3, 9)]), 4, 40, [.nilp, .nilp, .nilp, (.str [])], true, false⟩) .leaf .leaf)) (.node (some ⟨(.slice 59), 1, 24, [.nils], false, false⟩) (.node (some ⟨(.int .u64), 1, 8, [(.int .u64 (0))], false, false⟩) .leaf .leaf) (.node none .leaf .leaf))))) (.node (some ⟨(.int .u8), 1, 1, [(.int .u8 (0))], false, false⟩) (.node (some ⟨.str, 1, 16, [(.str [])], false, false⟩) (.node (some ⟨(.struct [(0, 17)]), 1, 8, [.nilp], true, false⟩) (.node (some ⟨.func, 1, 8, [.nilfn], false, false⟩) (.node (some ⟨.func, 1, 8, [.nilfn], false, false⟩) .leaf .leaf) (.node (some ⟨.uptr, 1, 8, [.nilp], false, false⟩) .leaf .leaf)) (.node (some ⟨(.ptr 56), 1, 8, [.nilp], false, false⟩) (.node (some ⟨(.arr 16 81), 32, 32, [(.int .u8 (0)), (.int .u8 (0)), (.int .u8 (0)), (.int .u8 (0)), (.int .u8 (0)), (.int .u8 (0)), (.int .u8 (0)), (.int .u8 (0)), (.int .u8 (0)), (.int .u8 (0)), (.int .u8 (0)), (.int .u8 (0)), (.int .u8 (0)), (.int .u8 (0)), (.int .u8 (0)), (.int .u8 (0)), (.int .u8 (0)), (.int .u8 (0)), (.int .u8 (0)), (.int .u8 (0)), (.int .u8 (0)), (.int .u8 (0)), (.int .u8 (0)), (.int .u8 (0)), (.int .u8 (0)), (.int .u8 (0)), (.int .u8 (0)), (.int .u8 (0)), (.int .u8 (0)), (.int .u8 (0)), (.int .u8 (0)), (.int .u8 (0))], true, false⟩) .leaf .leaf) (.node (some ⟨.func, 1, 8, [.nilfn], false, false⟩) .leaf .leaf))) (.node (some ⟨.func, 1, 8, [.nilfn], false, false⟩) (.node (some ⟨.func, 1, 8, [.nilfn], false, false⟩) (.node (some ⟨.func, 1, 8, [.nilfn], false, false⟩) .leaf .leaf) (.node (some ⟨.func, 1, 8, [.nilfn], false, false⟩) .leaf .leaf)) (.node (some ⟨(.struct [(0, 32), (4, 3), (5, 4)]), 6, 72, [(.int .u8 (0)), (.str []), (.int .i64 (0)), .nils, (.int .i64 (0)), (.bool false)], true, true⟩) (.node (some ⟨.func, 1, 8, [.nilfn], false, false⟩) .leaf .leaf) (.node none .leaf .leaf)))) (.node (some ⟨(.struct [(0, 9), (1, 12)]), 2, 24, [(.str []), (.int .u64 (0))], true, false⟩) (.node (some ⟨(.slice 24), 1, 24, [.nils], false, false⟩) (.node (some ⟨.func, 1, 8, [.nilfn], false, false⟩) (.node (some ⟨.func, 1, 8, [.nilfn], false, false⟩) .leaf .leaf) (.node (some ⟨.func, 1, 8, [.nilfn], false, false⟩) .leaf .leaf)) (.node (some ⟨(.struct [(0, 51), (1, 52)]), 2, 32, [.nilp, .nils], true, true⟩) (.node (some ⟨(.iface false), 1, 16, [.nili], false, false⟩) .leaf .leaf) (.node (some ⟨(.struct [(0, 12), (1, 12), (2, 100), (3, 112), (4, 5), (5, 5), (6, 113), (7, 114), (8, 91), (9, 115), (10, 116)]), 11, 48, [(.int .u64 (0)), (.int .u64 (0)), (.int .u32 (0)), (.int .u8 (0)), (.int .u8 (0)), (.int .u8 (0)), (.int .u8 (0)), .nilfn, .nilp, (.int .i32 (0)), (.int .i32 (0))], true, false⟩) .leaf .leaf))) (.node (some ⟨(.slice 32), 1, 24, [.nils], false, false⟩) (.node (some ⟨.func, 1, 8, [.nilfn], false, false⟩) (.node (some ⟨.func, 1, 8, [.nilfn], false, false⟩) .leaf .leaf) (.node (some ⟨(.struct [(0, 109)]), 0, 0, [], true, false⟩) .leaf .leaf)) (.node (some ⟨.func, 1, 8, [.nilfn], false, false⟩) (.node (some ⟨.func, 1, 8, [.nilfn], false, false⟩) .leaf .leaf) (.node none .leaf .leaf)))))))
theorem vT_ok : TOk Tryd.prog vT := tt_ok (d := 7) (by kernel_rfl)
noncomputable def vF : Tr Func := (.node none (.node none (.node (some Tryd.f3) (.node (some Tryd.f7) (.node (some Tryd.f15) (.node (some Tryd.f31) (.node none .leaf .leaf) .leaf) (.node none (.node none .leaf .leaf) .leaf)) (.node (some Tryd.f23) (.node (some Tryd.f39) (.node none .leaf .leaf) .leaf) (.node none (.node none .leaf .leaf) .leaf))) (.node (some Tryd.f11) (.node (some Tryd.f19) (.node (some Tryd.f35) (.node none .leaf .leaf) .leaf) (.node none (.node none .leaf .leaf) .leaf)) (.node none (.node (some Tryd.f43) (.node none .leaf .leaf) .leaf) (.node none .leaf .leaf)))) (.node (some Tryd.f5) (.node (some Tryd.f9) (.node (some Tryd.f17) (.node (some Tryd.f33) (.node none .leaf .leaf) .leaf) (.node none (.node none .leaf .leaf) .leaf)) (.node (some Tryd.f25) (.node none (.node none .leaf .leaf) .leaf) (.node none .leaf .leaf))) (.node (some Tryd.f13) (.node (some Tryd.f21) (.node none (.node none .leaf .leaf) .leaf) (.node none (.node none .leaf .leaf) .leaf)) (.node (some Tryd.f29) (.node none (.node none .leaf .leaf) .leaf) (.node none .leaf .leaf))))) (.node none (.node none (.node (some Tryd.f8) (.node (some Tryd.f16) (.node (some Tryd.f32) (.node none .leaf .leaf) .leaf) (.node none (.node none .leaf .leaf) .leaf)) (.node (some Tryd.f24) (.node none (.node none .leaf .leaf) .leaf) (.node none .leaf .leaf))) (.node (some Tryd.f12) (.node (some Tryd.f20) (.node (some Tryd.f36) (.node none .leaf .leaf) .leaf) (.node none (.node none .leaf .leaf) .leaf)) (.node none (.node (some Tryd.f44) (.node none .leaf .leaf) .leaf) (.node none .leaf .leaf)))) (.node (some Tryd.f6) (.node (some Tryd.f10) (.node (some Tryd.f18) (.node (some Tryd.f34) (.node none .leaf .leaf) .leaf) (.node none (.node none .leaf .leaf) .leaf)) (.node (some Tryd.f26) (.node (some Tryd.f42) (.node none .leaf .leaf) .leaf) (.node none .leaf .leaf))) (.node (some Tryd.f14) (.node (some Tryd.f22) (.node (some Tryd.f38) (.node none .leaf .leaf) .leaf) (.node none (.node none .leaf .leaf) .leaf)) (.node (some Tryd.f30) (.node none (.node none .leaf .leaf) .leaf) (.node none .leaf .leaf))))))
theorem vF_ok : Tr.Every (FnOk Tryd.prog) vF := (Tr.every_node noFn (Tr.every_node noFn (Tr.every_node (fnOk Tryd.func3 Tryd.call3 (by kernel_rfl)) (Tr.every_node (fnOk Tryd.func7 Tryd.call7 (by kernel_rfl)) (Tr.every_node (fnOk Tryd.func15 Tryd.call15 (by kernel_rfl)) (Tr.every_node (fnOk Tryd.func31 Tryd.call31 (by kernel_rfl)) (Tr.every_node noFn Tr.every_leaf Tr.every_leaf) Tr.every_leaf) (Tr.every_node noFn (Tr.every_node noFn Tr.every_leaf Tr.every_leaf) Tr.every_leaf)) (Tr.every_node (fnOk Tryd.func23 Tryd.call23 (by kernel_rfl)) (Tr.every_node (fnOk Tryd.func39 Tryd.call39 (by kernel_rfl)) (Tr.every_node noFn Tr.every_leaf Tr.every_leaf) Tr.every_leaf) (Tr.every_node noFn (Tr.every_node noFn Tr.every_leaf Tr.every_leaf) Tr.every_leaf))) (Tr.every_node (fnOk Tryd.func11 Tryd.call11 (by kernel_rfl)) (Tr.every_node (fnOk Tryd.func19 Tryd.call19 (by kernel_rfl)) (Tr.every_node (fnOk Tryd.func35 Tryd.call35 (by kernel_rfl)) (Tr.every_node noFn Tr.every_leaf Tr.every_leaf) Tr.every_leaf) (Tr.every_node noFn (Tr.every_node noFn Tr.every_leaf Tr.every_leaf) Tr.every_leaf)) (Tr.every_node noFn (Tr.every_node (fnOk Tryd.func43 Tryd.call43 (by kernel_rfl)) (Tr.every_node noFn Tr.every_leaf Tr.every_leaf) Tr.every_leaf) (Tr.every_node noFn Tr.every_leaf Tr.every_leaf)))) (Tr.every_node (fnOk Tryd.func5 Tryd.call5 (by kernel_rfl)) (Tr.every_node (fnOk Tryd.func9 Tryd.call9 (by kernel_rfl)) (Tr.every_node (fnOk Tryd.func17 Tryd.call17 (by kernel_rfl)) (Tr.every_node (fnOk Tryd.func33 Tryd.call33 (by kernel_rfl)) (Tr.every_node noFn Tr.every_leaf Tr.every_leaf) Tr.every_leaf) (Tr.every_node noFn (Tr.every_node noFn Tr.every_leaf Tr.every_leaf) Tr.every_leaf)) (Tr.every_node (fnOk Tryd.func25 Tryd.call25 (by kernel_rfl)) (Tr.every_node noFn (Tr.every_node noFn Tr.every_leaf Tr.every_leaf) Tr.every_leaf) (Tr.every_node noFn Tr.every_leaf Tr.every_leaf))) (Tr.every_node (fnOk Tryd.func13 Tryd.call13 (by kernel_rfl)) (Tr.every_node (fnOk Tryd.func21 Tryd.call21 (by kernel_rfl)) (Tr.every_node noFn (Tr.every_node noFn Tr.every_leaf Tr.every_leaf) Tr.every_leaf) (Tr.every_node noFn (Tr.every_node noFn Tr.every_leaf Tr.every_leaf) Tr.every_leaf)) (Tr.every_node (fnOk Tryd.func29 Tryd.call29 (by kernel_rfl)) (Tr.every_node noFn (Tr.every_node noFn Tr.every_leaf Tr.every_leaf) Tr.every_leaf) (Tr.every_node noFn Tr.every_leaf Tr.every_leaf))))) (Tr.every_node noFn (Tr.every_node noFn (Tr.every_node (fnOk Tryd.func8 Tryd.call8 (by kernel_rfl)) (Tr.every_node (fnOk Tryd.func16 Tryd.call16 (by kernel_rfl)) (Tr.every_node (fnOk Tryd.func32 Tryd.call32 (by kernel_rfl)) (Tr.every_node noFn Tr.every_leaf Tr.every_leaf) Tr.every_leaf) (Tr.every_node noFn (Tr.every_node noFn Tr.every_leaf Tr.every_leaf) Tr.every_leaf)) (Tr.every_node (fnOk Tryd.func24 Tryd.call24 (by kernel_rfl)) (Tr.every_node noFn (Tr.every_node noFn Tr.every_leaf Tr.every_leaf) Tr.every_leaf) (Tr.every_node noFn Tr.every_leaf Tr.every_leaf))) (Tr.every_node (fnOk Tryd.func12 Tryd.call12 (by kernel_rfl)) (Tr.every_node (fnOk Tryd.func20 Tryd.call20 (by kernel_rfl)) (Tr.every_node (fnOk Tryd.func36 Tryd.call36 (by kernel_rfl)) (Tr.every_node noFn Tr.every_leaf Tr.every_leaf) Tr.every_leaf) (Tr.every_node noFn (Tr.every_node noFn Tr.every_leaf Tr.every_leaf) Tr.every_leaf)) (Tr.every_node noFn (Tr.every_node (fnOk Tryd.func44 Tryd.call44 (by kernel_rfl)) (Tr.every_node noFn Tr.every_leaf Tr.every_leaf) Tr.every_leaf) (Tr.every_node noFn Tr.every_leaf Tr.every_leaf)))) (Tr.every_node (fnOk Tryd.func6 Tryd.call6 (by kernel_rfl)) (Tr.every_node (fnOk Tryd.func10 Tryd.call10 (by kernel_rfl)) (Tr.every_node (fnOk Tryd.func18 Tryd.call18 (by kernel_rfl)) (Tr.every_node (fnOk Tryd.func34 Tryd.call34 (by kernel_rfl)) (Tr.every_node noFn Tr.every_leaf Tr.every_leaf) Tr.every_leaf) (Tr.every_node noFn (Tr.every_node noFn Tr.every_leaf Tr.every_leaf) Tr.every_leaf)) (Tr.every_node (fnOk Tryd.func26 Tryd.call26 (by kernel_rfl)) (Tr.every_node (fnOk Tryd.func42 Tryd.call42 (by kernel_rfl)) (Tr.every_node noFn Tr.every_leaf Tr.every_leaf) Tr.every_leaf) (Tr.every_node noFn Tr.every_leaf Tr.every_leaf))) (Tr.every_node (fnOk Tryd.func14 Tryd.call14 (by kernel_rfl)) (Tr.every_node (fnOk Tryd.func22 Tryd.call22 (by kernel_rfl)) (Tr.every_node (fnOk Tryd.func38 Tryd.call38 (by kernel_rfl)) (Tr.every_node noFn Tr.every_leaf Tr.every_leaf) Tr.every_leaf) (Tr.every_node noFn (Tr.every_node noFn Tr.every_leaf Tr.every_leaf) Tr.every_leaf)) (Tr.every_node (fnOk Tryd.func30 Tryd.call30 (by kernel_rfl)) (Tr.every_node noFn (Tr.every_node noFn Tr.every_leaf Tr.every_leaf) Tr.every_leaf) (Tr.every_node noFn Tr.every_leaf Tr.every_leaf))))))
noncomputable def vP : Tr Prim := (.node none (.node none (.node none (.node none (.node none (.node none (.node none .leaf .leaf) .leaf) (.node none (.node none .leaf .leaf) .leaf)) (.node none (.node none (.node none .leaf .leaf) .leaf) (.node none (.node none .leaf .leaf) .leaf))) (.node none (.node none (.node none (.node none .leaf .leaf) .leaf) (.node none (.node none .leaf .leaf) .leaf)) (.node (some (.lib libValid)) (.node none (.node none .leaf .leaf) .leaf) (.node none .leaf .leaf)))) (.node none (.node none (.node none (.node none (.node none .leaf .leaf) .leaf) (.node none (.node none .leaf .leaf) .leaf)) (.node none (.node none (.node none .leaf .leaf) .leaf) (.node none .leaf .leaf))) (.node none (.node none (.node (some (.builderString 5)) (.node none .leaf .leaf) .leaf) (.node none (.node none .leaf .leaf) .leaf)) (.node none (.node (some (.lib libRunes)) (.node none .leaf .leaf) .leaf) (.node none .leaf .leaf))))) (.node none (.node none (.node none (.node none (.node none (.node none .leaf .leaf) .leaf) (.node (some (.copyCheck [(53, 2, 0), (54, 2, 0), (55, 4, 0), (56, 4, 0)])) (.node none .leaf .leaf) .leaf)) (.node none (.node none (.node none .leaf .leaf) .leaf) (.node none .leaf .leaf))) (.node none (.node none (.node none (.node none .leaf .leaf) .leaf) (.node none (.node none .leaf .leaf) .leaf)) (.node (some (.lib libContains)) (.node none (.node none .leaf .leaf) .leaf) (.node none .leaf .leaf)))) (.node none (.node none (.node none (.node none (.node none .leaf .leaf) .leaf) (.node none (.node none .leaf .leaf) .leaf)) (.node none (.node none (.node none .leaf .leaf) .leaf) (.node none .leaf .leaf))) (.node none (.node none (.node none (.node none .leaf .leaf) .leaf) (.node none (.node none .leaf .leaf) .leaf)) (.node none (.node (some (.lib libRepeat)) (.node none .leaf .leaf) .leaf) (.node none .leaf .leaf))))))
noncomputable def vG : Tr (List AV) := (.node (some [(.int .u8 (240)), (.int .u8 (240)), (.int .u8 (240)), (.int .u8 (240)), (.int .u8 (240)), (.int .u8 (240)), (.int .u8 (240)), (.int .u8 (240)), (.int .u8 (240)), (.int .u8 (240)), (.int .u8 (240)), (.int .u8 (240)), (.int .u8 (240)), (.int .u8 (240)), (.int .u8 (240)), (.int .u8 (240)), (.int .u8 (240)), (.int .u8 (240)), (.int .u8 (240)), (.int .u8 (240)), (.int .u8 (240)), (.int .u8 (240)), (.int .u8 (240)), (.int .u8 (240)), (.int .u8 (240)), (.int .u8 (240)), (.int .u8 (240)), (.int .u8 (240)), (.int .u8 (240)), (.int .u8 (240)), (.int .u8 (240)), (.int .u8 (240)), (.int .u8 (240)), (.int .u8 (240)), (.int .u8 (240)), (.int .u8 (240)), (.int .u8 (240)), (.int .u8 (240)), (.int .u8 (240)), (.int .u8 (240)), (.int .u8 (240)), (.int .u8 (240)), (.int .u8 (240)), (.int .u8 (240)), (.int .u8 (240)), (.int .u8 (240)), (.int .u8 (240)), (.int .u8 (240)), (.int .u8 (240)), (.int .u8 (240)), (.int .u8 (240)), (.int .u8 (240)), (.int .u8 (240)), (.int .u8 (240)), (.int .u8 (240)), (.int .u8 (240)), (.int .u8 (240)), (.int .u8 (240)), (.int .u8 (240)), (.int .u8 (240)), (.int .u8 (240)), (.int .u8 (240)), (.int .u8 (240)), (.int .u8 (240)), (.int .u8 (240)), (.int .u8 (240)), (.int .u8 (240)), (.int .u8 (240)), (.int .u8 (240)), (.int .u8 (240)), (.int .u8 (240)), (.int .u8 (240)), (.int .u8 (240)), (.int .u8 (240)), (.int .u8 (240)), (.int .u8 (240)), (.int .u8 (240)), (.int .u8 (240)), (.int .u8 (240)), (.int .u8 (240)), (.int .u8 (240)), (.int .u8 (240)), (.int .u8 (240)), (.int .u8 (240)), (.int .u8 (240)), (.int .u8 (240)), (.int .u8 (240)), (.int .u8 (240)), (.int .u8 (240)), (.int .u8 (240)), (.int .u8 (240)), (.int .u8 (240)), (.int .u8 (240)), (.int .u8 (240)), (.int .u8 (240)), (.int .u8 (240)), (.int .u8 (240)), (.int .u8 (240)), (.int .u8 (240)), (.int .u8 (240)), (.int .u8 (240)), (.int .u8 (240)), (.int .u8 (240)), (.int .u8 (240)), (.int .u8 (240)), (.int .u8 (240)), (.int .u8 (240)), (.int .u8 (240)), (.int .u8 (240)), (.int .u8 (240)), (.int .u8 (240)), (.int .u8 (240)), (.int .u8 (240)), (.int .u8 (240)), (.int .u8 (240)), (.int .u8 (240)), (.int .u8 (240)), (.int .u8 (240)), (.int .u8 (240)), (.int .u8 (240)), (.int .u8 (240)), (.int .u8 (240)), (.int .u8 (240)), (.int .u8 (240)), (.int .u8 (240)), (.int .u8 (240)), (.int .u8 (240)), (.int .u8 (240)), (.int .u8 (241)), (.int .u8 (241)), (.int .u8 (241)), (.int .u8 (241)), (.int .u8 (241)), (.int .u8 (241)), (.int .u8 (241)), (.int .u8 (241)), (.int .u8 (241)), (.int .u8 (241)), (.int .u8 (241)), (.int .u8 (241)), (.int .u8 (241)), (.int .u8 (241)), (.int .u8 (241)), (.int .u8 (241)), (.int .u8 (241)), (.int .u8 (241)), (.int .u8 (241)), (.int .u8 (241)), (.int .u8 (241)), (.int .u8 (241)), (.int .u8 (241)), (.int .u8 (241)), (.int .u8 (241)), (.int .u8 (241)), (.int .u8 (241)), (.int .u8 (241)), (.int .u8 (241)), (.int .u8 (241)), (.int .u8 (241)), (.int .u8 (241)), (.int .u8 (241)), (.int .u8 (241)), (.int .u8 (241)), (.int .u8 (241)), (.int .u8 (241)), (.int .u8 (241)), (.int .u8 (241)), (.int .u8 (241)), (.int .u8 (241)), (.int .u8 (241)), (.int .u8 (241)), (.int .u8 (241)), (.int .u8 (241)), (.int .u8 (241)), (.int .u8 (241)), (.int .u8 (241)), (.int .u8 (241)), (.int .u8 (241)), (.int .u8 (241)), (.int .u8 (241)), (.int .u8 (241)), (.int .u8 (241)), (.int .u8 (241)), (.int .u8 (241)), (.int .u8 (241)), (.int .u8 (241)), (.int .u8 (241)), (.int .u8 (241)), (.int .u8 (241)), (.int .u8 (241)), (.int .u8 (241)), (.int .u8 (241)), (.int .u8 (241)), (.int .u8 (241)), (.int .u8 (2)), (.int .u8 (2)), (.int .u8 (2)), (.int .u8 (2)), (.int .u8 (2)), (.int .u8 (2)), (.int .u8 (2)), (.int .u8 (2)), (.int .u8 (2)), (.int .u8 (2)), (.int .u8 (2)), (.int .u8 (2)), (.int .u8 (2)), (.int .u8 (2)), (.int .u8 (2)), (.int .u8 (2)), (.int .u8 (2)), (.int .u8 (2)), (.int .u8 (2)), (.int .u8 (2)), (.int .u8 (2)), (.int .u8 (2)), (.int .u8 (2)), (.int .u8 (2)), (.int .u8 (2)), (.int .u8 (2)), (.int .u8 (2)), (.int .u8 (2)), (.int .u8 (2)), (.int .u8 (2)), (.int .u8 (19)), (.int .u8 (3)), (.int .u8 (3)), (.int .u8 (3)), (.int .u8 (3)), (.int .u8 (3)), (.int .u8 (3)), (.int .u8 (3)), (.int .u8 (3)), (.int .u8 (3)), (.int .u8 (3)), (.int .u8 (3)), (.int .u8 (3)), (.int .u8 (35)), (.int .u8 (3)), (.int .u8 (3)), (.int .u8 (52)), (.int .u8 (4)), (.int .u8 (4)), (.int .u8 (4)), (.int .u8 (68)), (.int .u8 (241)), (.int .u8 (241)), (.int .u8 (241)), (.int .u8 (241)), (.int .u8 (241)), (.int .u8 (241)), (.int .u8 (241)), (.int .u8 (241)), (.int .u8 (241)), (.int .u8 (241)), (.int .u8 (241))]) (.node (some [(.int .u8 (128)), (.int .u8 (191)), (.int .u8 (160)), (.int .u8 (191)), (.int .u8 (128)), (.int .u8 (159)), (.int .u8 (144)), (.int .u8 (191)), (.int .u8 (128)), (.int .u8 (143)), (.int .u8 (0)), (.int .u8 (0)), (.int .u8 (0)), (.int .u8 (0)), (.int .u8 (0)), (.int .u8 (0)), (.int .u8 (0)), (.int .u8 (0)), (.int .u8 (0)), (.int .u8 (0)), (.int .u8 (0)), (.int .u8 (0)), (.int .u8 (0)), (.int .u8 (0)), (.int .u8 (0)), (.int .u8 (0)), (.int .u8 (0)), (.int .u8 (0)), (.int .u8 (0)), (.int .u8 (0)), (.int .u8 (0)), (.int .u8 (0))]) .leaf .leaf) (.node none .leaf .leaf))
noncomputable def vI : Tr (List Nat) := (.node none (.node none (.node (some [24]) (.node (some [24]) (.node (some [32]) (.node none (.node none .leaf .leaf) .leaf) (.node none (.node none .leaf .leaf) .leaf)) (.node none (.node none (.node none .leaf .leaf) .leaf) (.node none (.node none .leaf .leaf) .leaf))) (.node (some [24]) (.node none (.node (some [59]) (.node none .leaf .leaf) .leaf) (.node none (.node none .leaf .leaf) .leaf)) (.node none (.node none (.node none .leaf .leaf) .leaf) (.node none .leaf .leaf)))) (.node (some [24]) (.node none (.node none (.node none (.node none .leaf .leaf) .leaf) (.node none (.node none .leaf .leaf) .leaf)) (.node (some [32]) (.node none (.node none .leaf .leaf) .leaf) (.node none .leaf .leaf))) (.node (some [32]) (.node none (.node none (.node none .leaf .leaf) .leaf) (.node none (.node none .leaf .leaf) .leaf)) (.node none (.node none (.node none .leaf .leaf) .leaf) (.node none .leaf .leaf))))) (.node none (.node none (.node (some [24]) (.node (some [24]) (.node none (.node none .leaf .leaf) .leaf) (.node none (.node none .leaf .leaf) .leaf)) (.node none (.node none (.node none .leaf .leaf) .leaf) (.node none .leaf .leaf))) (.node (some [24]) (.node none (.node none (.node none .leaf .leaf) .leaf) (.node none (.node none .leaf .leaf) .leaf)) (.node none (.node none (.node none .leaf .leaf) .leaf) (.node none .leaf .leaf)))) (.node none (.node (some [32]) (.node none (.node none (.node none .leaf .leaf) .leaf) (.node none (.node none .leaf .leaf) .leaf)) (.node (some [24]) (.node none (.node none .leaf .leaf) .leaf) (.node none .leaf .leaf))) (.node (some [24]) (.node none (.node (some [64]) (.node none .leaf .leaf) .leaf) (.node none (.node none .leaf .leaf) .leaf)) (.node (some [32]) (.node none (.node none .leaf .leaf) .leaf) (.node none .leaf .leaf))))))
noncomputable def vfull : List Nat := []
noncomputable def vlook : List Nat := []
theorem prim27 : OnePrim Tryd.prog vT (fun b => vG.get b) 27 (.lib libValid) := valid_prim (g3 := 0) (g4 := 1) Tryd.call27 (fun s w h hT => Tryd.utf8_ValidString s w h hT) rfl rfl (by kernel_rfl) (by kernel_rfl)
theorem prim28 : OnePrim Tryd.prog vT (fun b => vG.get b) 28 (.lib libContains) := contains_prim Tryd.call28 fun s c w => Tryd.strings_Contains_one s c w
theorem prim37 : OnePrim Tryd.prog vT (fun b => vG.get b) 37 (.builderString 5) := builderString_prim ⟨Tryd.call37, size_of (by kernel_rfl), run_string_nil, run_string⟩
theorem prim45 : OnePrim Tryd.prog vT (fun b => vG.get b) 45 (.lib libRunes) := runes_prim Tryd.call45 fun s w h => Tryd.utf8_RuneCountInString s w h
theorem prim46 : OnePrim Tryd.prog vT (fun b => vG.get b) 46 (.lib libRepeat) := repeat_prim Tryd.call46 fun s c w h1 h2 => Tryd.strings_Repeat s c w h1 h2
theorem prim48 : OnePrim Tryd.prog vT (fun b => vG.get b) 48 (.copyCheck [(53, 2, 0), (54, 2, 0), (55, 4, 0), (56, 4, 0)]) := copyCheck_prim ⟨Tryd.call48, run_used, fun b o w e n h1 h2 h3 h4 h5 => run_fresh b o w e n h1 h2 h3 h4 (lies_of (by kernel_rfl) h5)⟩
theorem vP_ok : Tr.Every (fun f q => OnePrim Tryd.prog vT (fun b => vG.get b) f q) vP := (Tr.every_node noPrim (Tr.every_node noPrim (Tr.every_node noPrim (Tr.every_node noPrim (Tr.every_node noPrim (Tr.every_node noPrim (Tr.every_node noPrim Tr.every_leaf Tr.every_leaf) Tr.every_leaf) (Tr.every_node noPrim (Tr.every_node noPrim Tr.every_leaf Tr.every_leaf) Tr.every_leaf)) (Tr.every_node noPrim (Tr.every_node noPrim (Tr.every_node noPrim Tr.every_leaf Tr.every_leaf) Tr.every_leaf) (Tr.every_node noPrim (Tr.every_node noPrim Tr.every_leaf Tr.every_leaf) Tr.every_leaf))) (Tr.every_node noPrim (Tr.every_node noPrim (Tr.every_node noPrim (Tr.every_node noPrim Tr.every_leaf Tr.every_leaf) Tr.every_leaf) (Tr.every_node noPrim (Tr.every_node noPrim Tr.every_leaf Tr.every_leaf) Tr.every_leaf)) (Tr.every_node (onePrim prim27) (Tr.every_node noPrim (Tr.every_node noPrim Tr.every_leaf Tr.every_leaf) Tr.every_leaf) (Tr.every_node noPrim Tr.every_leaf Tr.every_leaf)))) (Tr.every_node noPrim (Tr.every_node noPrim (Tr.every_node noPrim (Tr.every_node noPrim (Tr.every_node noPrim Tr.every_leaf Tr.every_leaf) Tr.every_leaf) (Tr.every_node noPrim (Tr.every_node noPrim Tr.every_leaf Tr.every_leaf) Tr.every_leaf)) (Tr.every_node noPrim (Tr.every_node noPrim (Tr.every_node noPrim Tr.every_leaf Tr.every_leaf) Tr.every_leaf) (Tr.every_node noPrim Tr.every_leaf Tr.every_leaf))) (Tr.every_node noPrim (Tr.every_node noPrim (Tr.every_node (onePrim prim37) (Tr.every_node noPrim Tr.every_leaf Tr.every_leaf) Tr.every_leaf) (Tr.every_node noPrim (Tr.every_node noPrim Tr.every_leaf Tr.every_leaf) Tr.every_leaf)) (Tr.every_node noPrim (Tr.every_node (onePrim prim45) (Tr.every_node noPrim Tr.every_leaf Tr.every_leaf) Tr.every_leaf) (Tr.every_node noPrim Tr.every_leaf Tr.every_leaf))))) (Tr.every_node noPrim (Tr.every_node noPrim (Tr.every_node noPrim (Tr.every_node noPrim (Tr.every_node noPrim (Tr.every_node noPrim Tr.every_leaf Tr.every_leaf) Tr.every_leaf) (Tr.every_node (onePrim prim48) (Tr.every_node noPrim Tr.every_leaf Tr.every_leaf) Tr.every_leaf)) (Tr.every_node noPrim (Tr.every_node noPrim (Tr.every_node noPrim Tr.every_leaf Tr.every_leaf) Tr.every_leaf) (Tr.every_node noPrim Tr.every_leaf Tr.every_leaf))) (Tr.every_node noPrim (Tr.every_node noPrim (Tr.every_node noPrim (Tr.every_node noPrim Tr.every_leaf Tr.every_leaf) Tr.every_leaf) (Tr.every_node noPrim (Tr.every_node noPrim Tr.every_leaf Tr.every_leaf) Tr.every_leaf)) (Tr.every_node (onePrim prim28) (Tr.every_node noPrim (Tr.every_node noPrim Tr.every_leaf Tr.every_leaf) Tr.every_leaf) (Tr.every_node noPrim Tr.every_leaf Tr.every_leaf)))) (Tr.every_node noPrim (Tr.every_node noPrim (Tr.every_node noPrim (Tr.every_node noPrim (Tr.every_node noPrim Tr.every_leaf Tr.every_leaf) Tr.every_leaf) (Tr.every_node noPrim (Tr.every_node noPrim Tr.every_leaf Tr.every_leaf) Tr.every_leaf)) (Tr.every_node noPrim (Tr.every_node noPrim (Tr.every_node noPrim Tr.every_leaf Tr.every_leaf) Tr.every_leaf) (Tr.every_node noPrim Tr.every_leaf Tr.every_leaf))) (Tr.every_node noPrim (Tr.every_node noPrim (Tr.every_node noPrim (Tr.every_node noPrim Tr.every_leaf Tr.every_leaf) Tr.every_leaf) (Tr.every_node noPrim (Tr.every_node noPrim Tr.every_leaf Tr.every_leaf) Tr.every_leaf)) (Tr.every_node noPrim (Tr.every_node (onePrim prim46) (Tr.every_node noPrim Tr.every_leaf Tr.every_leaf) Tr.every_leaf) (Tr.every_node noPrim Tr.every_leaf Tr.every_leaf))))))
noncomputable def vE : Env where
  T := vT
  F i := vF.get i
  prim i := vP.get i
  full i := vfull.any fun j => i.beq j
  isLook i := vlook.any fun j => i.beq j
  imm f t := match vI.get f with
    | some l => l.any fun j => t.beq j
    | none => false
  G b := vG.get b
  memo _ := []
theorem vE_ok : EnvOk Tryd.prog vE := ⟨vT_ok, fun f fn h => Tr.every_get vF _ vF_ok f fn h, primOk_of fun f q h => Tr.every_get vP _ vP_ok f q h, by kernel_rfl, fun _ _ h => by cases h⟩
end Go.Proofs.YteajphhelkdjnaaDoor.Vm
set_option maxRecDepth 1000000
set_option maxHeartbeats 0
namespace Go.Proofs.YteajphhelkdjnaaDoor.Vm
open Go Go.VM Go.Proofs
/-- rostrum/rostrumlaw19.LayoutShows -/
noncomputable def g3 : AV → AV → Option AV := fun x0 x1 => unA x0 fun l1 => unc l1 fun v2 l3 => asI .u8 v2 fun n4 => unc l3 fun v5 l6 => asS v5 fun l7 => unc l6 fun v8 l9 => asI .i64 v8 fun n10 => unc l9 fun v11 l12 =>
 un0 l12 (asI .i64 x1 fun n13 => asOne v11 (fit1 v11 fun v14 => callS (orc vE) 8 [AV.agg [AV.int .u8 n4, AV.str l7, AV.int .i64 n10, v14], AV.int .i64 400] (St.mk 0 0 Tr.leaf) fun v16 st17 _x => asI .i64 v16 fun n19 =>
 ifB (decide (n19 ≥ 400)) (callS (orc vE) 9 [] st17 fun v20 _x _x_1 => asB v20 fun b23 => some (AV.bool b23)) (callS (orc vE) 11 [AV.agg [AV.int .u8 n4, AV.str l7, AV.int .i64 n10, v14]] st17 fun v25 st26 _x => unA v25
 fun l29 => unc l29 fun v30 l31 => asI .u8 v30 fun n32 => unc l31 fun v33 l34 => asS v33 fun l35 => unc l34 fun v36 l37 => asI .i64 v36 fun n38 => unc l37 fun v39 l40 => un0 l40 (callS (orc vE) 10 [AV.agg [AV.int .u8
 n32, AV.str l35, AV.int .i64 n38, v39], AV.int .i64 n13] st26 fun v41 st42 _x => unT v41 fun l44 => nthS l44 0 fun v45 => asS v45 fun l46 => unT v41 fun l47 => nthS l47 1 fun v48 => asI .i64 v48 fun n49 => callS (orc
 vE) 12 [AV.agg [AV.int .u8 n4, AV.str l7, AV.int .i64 n10, v14], AV.int .i64 n13] st42 fun v51 st52 _x => unT v51 fun l54 => nthS l54 0 fun v55 => asS v55 fun l56 => unT v51 fun l57 => nthS l57 1 fun v58 => asI .i64 v58
 fun n59 => callS (orc vE) 11 [AV.agg [AV.int .u8 n4, AV.str l7, AV.int .i64 n10, v14]] st52 fun v61 st62 _x => unA v61 fun l65 => unc l65 fun v66 l67 => asI .u8 v66 fun n68 => unc l67 fun v69 l70 => asS v69 fun l71 =>
 unc l70 fun v72 l73 => asI .i64 v72 fun n74 => unc l73 fun v75 l76 => un0 l76 (callS (orc vE) 13 [AV.agg [AV.int .u8 n68, AV.str l71, AV.int .i64 n74, v75]] st62 fun v77 st78 _x => unT v77 fun l80 => nthS l80 0 fun v81
 => asS v81 fun l82 => unT v77 fun l83 => nthS l83 1 fun v84 => asB v84 fun b85 => callS (orc vE) 14 [AV.agg [AV.int .u8 n4, AV.str l7, AV.int .i64 n10, v14]] st78 fun v87 st88 _x => unT v87 fun l90 => nthS l90 0 fun v91
 => asS v91 fun l92 => unT v87 fun l93 => nthS l93 1 fun v94 => asB v94 fun b95 => bindO (callS (orc vE) 11 [AV.agg [AV.int .u8 n4, AV.str l7, AV.int .i64 n10, v14]] st88 fun v97 st98 x99 => unA v97 fun l101 => unc l101
 fun v102 l103 => asI .u8 v102 fun n104 => unc l103 fun v105 l106 => asS v105 fun l107 => unc l106 fun v108 l109 => asI .i64 v108 fun n110 => unc l109 fun v111 l112 => un0 l112 (callS (orc vE) 15 [AV.agg [AV.int .u8
 n104, AV.str l107, AV.int .i64 n110, v111]] st98 fun v113 st114 x115 => asB v113 fun b116 => chk (apart x115 (Fx.mk [] Did.kept) && (apart x99 (Fx.mk [] Did.kept) && true)) (callS (orc vE) 16 [AV.agg [AV.int .u8 n4,
 AV.str l7, AV.int .i64 n10, v14]] st114 fun v118 st119 _x => asB v118 fun b121 => ifB (b116 == b121) (ifB (l46 == l56) (ifB (n49 == n59) (ifB (l82 == l92) (ifB (b85 == b95) (callS (orc vE) 9 [] st119 fun v122 st123 _x
 => asB v122 fun b125 => some ([AV.bool b125], st123)) (some ([AV.bool false], st119))) (some ([AV.bool false], st119))) (some ([AV.bool false], st119))) (some ([AV.bool false], st119))) (some ([AV.bool false],
 st119))))) fun c126 => unc (Prod.fst c126) fun v127 l128 => asB v127 fun b129 => un0 l128 (some (AV.bool b129)))))))
theorem g3_eq (x0 x1 : AV) : bareS vE 3 [x0, x1] = g3 x0 x1 := by kernel_rfl
/-- rostrum/rostrumlaw19.LayoutTexts -/
noncomputable def g5 : AV → AV → AV → Option AV := fun x0 x1 x2 => unA x0 fun l1 => unc l1 fun v2 l3 => asI .u8 v2 fun n4 => unc l3 fun v5 l6 => asS v5 fun l7 => unc l6 fun v8 l9 => asI .i64 v8 fun n10 => unc l9 fun v11
 l12 => un0 l12 (asI .i64 x1 fun n13 => asI .i64 x2 fun n14 => asOne v11 (fit1 v11 fun v15 => bindO (callS (orc vE) 8 [AV.agg [AV.int .u8 n4, AV.str l7, AV.int .i64 n10, v15], AV.int .i64 400] (St.mk 0 0 Tr.leaf) fun v17
 st18 _x => asI .i64 v17 fun n20 => ifB (decide (n20 ≥ 400)) (some ([AV.bool true], st18)) (callS (orc vE) 9 [] st18 fun v21 st22 _x => asB v21 fun b24 => some ([AV.bool !b24], st22))) fun c25 => unc (Prod.fst c25) fun
 v26 l27 => asB v26 fun b28 => un0 l27 (ifB b28 (callS (orc vE) 9 [] (Prod.snd c25) fun v29 _x _x_1 => asB v29 fun b32 => some (AV.bool b32)) (callS (orc vE) 11 [AV.agg [AV.int .u8 n4, AV.str l7, AV.int .i64 n10, v15]]
 (Prod.snd c25) fun v34 st35 x36 => unA v34 fun l38 => unc l38 fun v39 l40 => asI .u8 v39 fun n41 => unc l40 fun v42 l43 => asS v42 fun l44 => unc l43 fun v45 l46 => asI .i64 v45 fun n47 => unc l46 fun v48 l49 => un0 l49
 (chk (apart x36 (Fx.mk [] Did.kept) && true) (callS (orc vE) 11 [AV.agg [AV.int .u8 n4, AV.str l7, AV.int .i64 n10, v15]] st35 fun v51 st52 x53 => unA v51 fun l55 => unc l55 fun v56 l57 => asI .u8 v56 fun n58 => unc l57
 fun v59 l60 => asS v59 fun l61 => unc l60 fun v62 l63 => asI .i64 v62 fun n64 => unc l63 fun v65 l66 => un0 l66 (letSt (St.add st52 (VM.Obj.cells 32 [AV.int .u8 0, AV.str [], AV.int .i64 0, AV.nils])) fun st67 => chk
 (apart x53 (Fx.mk [] (Did.made (St.h st52) (VM.Obj.cells 32 [AV.int .u8 0, AV.str [], AV.int .i64 0, AV.nils]))) && (apart x36 (Fx.mk [] (Did.made (St.h st52) (VM.Obj.cells 32 [AV.int .u8 0, AV.str [], AV.int .i64 0,
 AV.nils]))) && true)) (letSt (St.add st67 (VM.Obj.cells 32 [AV.int .u8 0, AV.str [], AV.int .i64 0, AV.nils])) fun st68 => chk (apart (Fx.mk [] (Did.made (St.h st52) (VM.Obj.cells 32 [AV.int .u8 0, AV.str [], AV.int
 .i64 0, AV.nils]))) (Fx.mk [] (Did.made (St.h st67) (VM.Obj.cells 32 [AV.int .u8 0, AV.str [], AV.int .i64 0, AV.nils]))) && (apart x53 (Fx.mk [] (Did.made (St.h st67) (VM.Obj.cells 32 [AV.int .u8 0, AV.str [], AV.int
 .i64 0, AV.nils]))) && (apart x36 (Fx.mk [] (Did.made (St.h st67) (VM.Obj.cells 32 [AV.int .u8 0, AV.str [], AV.int .i64 0, AV.nils]))) && true))) (asOne v48 (storeS (orc vE) 4 (AV.mp (St.h st52) 0) (AV.agg [AV.int .u8
 n41, AV.str l44, AV.int .i64 n47, v48]) [AV.int .u8 n41, AV.str l44, AV.int .i64 n47, v48] st68 fun _x st70 _x_1 => asOne v65 (storeS (orc vE) 4 (AV.mp (St.h st67) 0) (AV.agg [AV.int .u8 n58, AV.str l61, AV.int .i64
 n64, v65]) [AV.int .u8 n58, AV.str l61, AV.int .i64 n64, v65] st70 fun _x st73 _x_2 => loadS 4 true (AV.mp (St.h st52) 0) st73 fun v75 _x => unA v75 fun l78 => unc l78 fun v79 l80 => asI .u8 v79 fun n81 => unc l80 fun
 v82 l83 => asS v82 fun l84 => unc l83 fun v85 l86 => asI .i64 v85 fun n87 => unc l86 fun v88 l89 => un0 l89 (letV (IntKind.wrap .u64 n13) fun n90 => letV (Int.tmod n90 200) fun n91 => letV (IntKind.wrap .i64 n91) fun
 n92 => letV (IntKind.wrap .i64 (1 + n92)) fun n93 => callS (orc vE) 10 [AV.agg [AV.int .u8 n81, AV.str l84, AV.int .i64 n87, v88], AV.int .i64 n93] st73 fun v94 st95 _x => unT v94 fun l97 => nthS l97 0 fun v98 => asS
 v98 fun l99 => unT v94 fun l100 => nthS l100 1 fun v101 => asI .i64 v101 fun n102 => loadS 4 true (AV.mp (St.h st67) 0) st95 fun v103 _x => unA v103 fun l106 => unc l106 fun v107 l108 => asI .u8 v107 fun n109 => unc
 l108 fun v110 l111 => asS v110 fun l112 => unc l111 fun v113 l114 => asI .i64 v113 fun n115 => unc l114 fun v116 l117 => un0 l117 (letV (IntKind.wrap .u64 n14) fun n118 => letV (Int.tmod n118 200) fun n119 => letV
 (IntKind.wrap .i64 n119) fun n120 => letV (IntKind.wrap .i64 (1 + n120)) fun n121 => callS (orc vE) 10 [AV.agg [AV.int .u8 n109, AV.str l112, AV.int .i64 n115, v116], AV.int .i64 n121] st95 fun v122 st123 _x => unT v122
 fun l125 => nthS l125 0 fun v126 => asS v126 fun l127 => unT v122 fun l128 => nthS l128 1 fun v129 => asI .i64 v129 fun n130 => bindO (ifB (n102 == n130) (callS (orc vE) 21 [AV.str l99] st123 fun v131 st132 _x => asS
 v131 fun l134 => callS (orc vE) 21 [AV.str l127] st132 fun v135 st136 _x => asS v135 fun l138 => some ([AV.bool (l134 == l138)], st136)) (some ([AV.bool false], st123))) fun c139 => unc (Prod.fst c139) fun v140 l141 =>
 asB v140 fun b142 => un0 l141 (some (AV.bool b142)))))))))))))))
theorem g5_eq (x0 x1 x2 : AV) : bareS vE 5 [x0, x1, x2] = g5 x0 x1 x2 := by kernel_rfl
/-- rostrum/rostrumlaw19.LayoutRows -/
noncomputable def g7 : AV → AV → AV → Option AV := fun x0 x1 x2 => unA x0 fun l1 => unc l1 fun v2 l3 => asI .u8 v2 fun n4 => unc l3 fun v5 l6 => asS v5 fun l7 => unc l6 fun v8 l9 => asI .i64 v8 fun n10 => unc l9 fun v11
 l12 => un0 l12 (unA x1 fun l14 => unc l14 fun v15 l16 => asI .u8 v15 fun n17 => unc l16 fun v18 l19 => asS v18 fun l20 => unc l19 fun v21 l22 => asI .i64 v21 fun n23 => unc l22 fun v24 l25 => un0 l25 (asI .i64 x2 fun
 n26 => asOne v11 (fit1 v11 fun v27 => asOne v24 (fit1 v24 fun v28 => bindO (callS (orc vE) 8 [AV.agg [AV.int .u8 n4, AV.str l7, AV.int .i64 n10, v27], AV.int .i64 300] (St.mk 0 0 Tr.leaf) fun v30 st31 _x => asI .i64 v30
 fun n33 => ifB (decide (n33 ≥ 300)) (some ([AV.bool true], st31)) (callS (orc vE) 8 [AV.agg [AV.int .u8 n17, AV.str l20, AV.int .i64 n23, v28], AV.int .i64 300] st31 fun v35 st36 _x => asI .i64 v35 fun n38 => ifB
 (decide (n38 ≥ 300)) (some ([AV.bool true], st36)) (callS (orc vE) 9 [] st36 fun v39 st40 _x => asB v39 fun b42 => some ([AV.bool !b42], st40)))) fun c43 => unc (Prod.fst c43) fun v44 l45 => asB v44 fun b46 => un0 l45
 (ifB b46 (callS (orc vE) 9 [] (Prod.snd c43) fun v47 _x _x_1 => asB v47 fun b50 => some (AV.bool b50)) (letV (IntKind.wrap .u64 n26) fun n51 => letV (Int.tmod n51 200) fun n52 => letV (IntKind.wrap .i64 n52) fun n53 =>
 letV (IntKind.wrap .i64 (1 + n53)) fun n54 => callS (orc vE) 11 [AV.agg [AV.int .u8 n4, AV.str l7, AV.int .i64 n10, v27]] (Prod.snd c43) fun v56 st57 x58 => unA v56 fun l60 => unc l60 fun v61 l62 => asI .u8 v61 fun n63
 => unc l62 fun v64 l65 => asS v64 fun l66 => unc l65 fun v67 l68 => asI .i64 v67 fun n69 => unc l68 fun v70 l71 => un0 l71 (chk (apart x58 (Fx.mk [] Did.kept) && true) (callS (orc vE) 11 [AV.agg [AV.int .u8 n17, AV.str
 l20, AV.int .i64 n23, v28]] st57 fun v73 st74 x75 => unA v73 fun l77 => unc l77 fun v78 l79 => asI .u8 v78 fun n80 => unc l79 fun v81 l82 => asS v81 fun l83 => unc l82 fun v84 l85 => asI .i64 v84 fun n86 => unc l85 fun
 v87 l88 => un0 l88 (letSt (St.add st74 (VM.Obj.cells 32 [AV.int .u8 0, AV.str [], AV.int .i64 0, AV.nils])) fun st89 => chk (apart x75 (Fx.mk [] (Did.made (St.h st74) (VM.Obj.cells 32 [AV.int .u8 0, AV.str [], AV.int
 .i64 0, AV.nils]))) && (apart x58 (Fx.mk [] (Did.made (St.h st74) (VM.Obj.cells 32 [AV.int .u8 0, AV.str [], AV.int .i64 0, AV.nils]))) && true)) (letSt (St.add st89 (VM.Obj.cells 32 [AV.int .u8 0, AV.str [], AV.int
 .i64 0, AV.nils])) fun st90 => chk (apart (Fx.mk [] (Did.made (St.h st74) (VM.Obj.cells 32 [AV.int .u8 0, AV.str [], AV.int .i64 0, AV.nils]))) (Fx.mk [] (Did.made (St.h st89) (VM.Obj.cells 32 [AV.int .u8 0, AV.str [],
 AV.int .i64 0, AV.nils]))) && (apart x75 (Fx.mk [] (Did.made (St.h st89) (VM.Obj.cells 32 [AV.int .u8 0, AV.str [], AV.int .i64 0, AV.nils]))) && (apart x58 (Fx.mk [] (Did.made (St.h st89) (VM.Obj.cells 32 [AV.int .u8
 0, AV.str [], AV.int .i64 0, AV.nils]))) && true))) (asOne v70 (storeS (orc vE) 4 (AV.mp (St.h st74) 0) (AV.agg [AV.int .u8 n63, AV.str l66, AV.int .i64 n69, v70]) [AV.int .u8 n63, AV.str l66, AV.int .i64 n69, v70] st90
 fun _x st92 _x_1 => asOne v87 (storeS (orc vE) 4 (AV.mp (St.h st89) 0) (AV.agg [AV.int .u8 n80, AV.str l83, AV.int .i64 n86, v87]) [AV.int .u8 n80, AV.str l83, AV.int .i64 n86, v87] st92 fun _x st95 _x_2 => loadS 4 true
 (AV.mp (St.h st89) 0) st95 fun v97 _x => unA v97 fun l100 => unc l100 fun v101 l102 => asI .u8 v101 fun n103 => unc l102 fun v104 l105 => asS v104 fun l106 => unc l105 fun v107 l108 => asI .i64 v107 fun n109 => unc l108
 fun v110 l111 => un0 l111 (asOne v110 (asOne v110 (fit1 v110 fun v112 => letSt (St.add st95 (VM.Obj.cells 32 [AV.int .u8 0, AV.str [], AV.int .i64 0, AV.nils])) fun st114 => storeS (orc vE) 4 (AV.mp (St.h st95) 0)
 (AV.agg [AV.int .u8 5, AV.str [], AV.int .i64 0, AV.sl 4 [AV.agg [AV.int .u8 n103, AV.str l106, AV.int .i64 n109, v112]] Perm.shut]) [AV.int .u8 5, AV.str [], AV.int .i64 0, AV.sl 4 [AV.agg [AV.int .u8 n103, AV.str
 l106, AV.int .i64 n109, v112]] Perm.shut] st114 fun _x st116 _x_3 => loadS 4 true (AV.mp (St.h st74) 0) st116 fun v118 _x => unA v118 fun l121 => unc l121 fun v122 l123 => asI .u8 v122 fun n124 => unc l123 fun v125 l126
 => asS v125 fun l127 => unc l126 fun v128 l129 => asI .i64 v128 fun n130 => unc l129 fun v131 l132 => un0 l132 (loadS 4 true (AV.mp (St.h st89) 0) st116 fun v133 _x => unA v133 fun l136 => unc l136 fun v137 l138 => asI
 .u8 v137 fun n139 => unc l138 fun v140 l141 => asS v140 fun l142 => unc l141 fun v143 l144 => asI .i64 v143 fun n145 => unc l144 fun v146 l147 => un0 l147 (asOne v131 (asOne v146 (asOne v131 (fit1 v131 fun v148 => asOne
 v146 (fit1 v146 fun v149 => callS (orc vE) 20 [AV.sl 4 [AV.agg [AV.int .u8 n124, AV.str l127, AV.int .i64 n130, v148], AV.agg [AV.int .u8 n139, AV.str l142, AV.int .i64 n145, v149]] Perm.shut] st116 fun v150 st151 _x =>
 unA v150 fun l154 => unc l154 fun v155 l156 => asI .u8 v155 fun n157 => unc l156 fun v158 l159 => asS v158 fun l160 => unc l159 fun v161 l162 => asI .i64 v161 fun n163 => unc l162 fun v164 l165 => un0 l165 (callS (orc
 vE) 10 [AV.agg [AV.int .u8 n157, AV.str l160, AV.int .i64 n163, v164], AV.int .i64 n54] st151 fun v166 st167 _x => unT v166 fun l169 => nthS l169 0 fun v170 => asS v170 fun l171 => unT v166 fun l172 => nthS l172 1 fun
 v173 => asI .i64 v173 fun n174 => loadS 4 true (AV.mp (St.h st74) 0) st167 fun v175 _x => unA v175 fun l178 => unc l178 fun v179 l180 => asI .u8 v179 fun n181 => unc l180 fun v182 l183 => asS v182 fun l184 => unc l183
 fun v185 l186 => asI .i64 v185 fun n187 => unc l186 fun v188 l189 => un0 l189 (asOne v188 (asOne v188 (fit1 v188 fun v190 => callS (orc vE) 20 [AV.sl 4 [AV.agg [AV.int .u8 n181, AV.str l184, AV.int .i64 n187, v190]]
 Perm.shut] st167 fun v191 st192 x193 => unA v191 fun l195 => unc l195 fun v196 l197 => asI .u8 v196 fun n198 => unc l197 fun v199 l200 => asS v199 fun l201 => unc l200 fun v202 l203 => asI .i64 v202 fun n204 => unc l203
 fun v205 l206 => un0 l206 (callS (orc vE) 20 [AV.nils] st192 fun v207 st208 x209 => unA v207 fun l211 => unc l211 fun v212 l213 => asI .u8 v212 fun n214 => unc l213 fun v215 l216 => asS v215 fun l217 => unc l216 fun
 v218 l219 => asI .i64 v218 fun n220 => unc l219 fun v221 l222 => un0 l222 (loadS 4 true (AV.mp (St.h st95) 0) st208 fun v223 l224 => unA v223 fun l226 => unc l226 fun v227 l228 => asI .u8 v227 fun n229 => unc l228 fun
 v230 l231 => asS v230 fun l232 => unc l231 fun v233 l234 => asI .i64 v233 fun n235 => unc l234 fun v236 l237 => un0 l237 (chk (apart x209 (Fx.mk l224 Did.kept) && (apart x193 (Fx.mk l224 Did.kept) && true)) (asOne v221
 (asOne v236 (asOne v221 (fit1 v221 fun v238 => asOne v236 (fit1 v236 fun v239 => callS (orc vE) 20 [AV.sl 4 [AV.agg [AV.int .u8 n214, AV.str l217, AV.int .i64 n220, v238], AV.agg [AV.int .u8 n229, AV.str l232, AV.int
 .i64 n235, v239]] Perm.shut] st208 fun v240 st241 x242 => unA v240 fun l244 => unc l244 fun v245 l246 => asI .u8 v245 fun n247 => unc l246 fun v248 l249 => asS v248 fun l250 => unc l249 fun v251 l252 => asI .i64 v251
 fun n253 => unc l252 fun v254 l255 => un0 l255 (asOne v205 (asOne v254 (asOne v205 (fit1 v205 fun v256 => asOne v254 (fit1 v254 fun v257 => callS (orc vE) 20 [AV.sl 4 [AV.agg [AV.int .u8 n198, AV.str l201, AV.int .i64
 n204, v256], AV.agg [AV.int .u8 n247, AV.str l250, AV.int .i64 n253, v257]] Perm.shut] st241 fun v258 st259 x260 => unA v258 fun l262 => unc l262 fun v263 l264 => asI .u8 v263 fun n265 => unc l264 fun v266 l267 => asS
 v266 fun l268 => unc l267 fun v269 l270 => asI .i64 v269 fun n271 => unc l270 fun v272 l273 => un0 l273 (chk (apart x260 (Fx.mk [] Did.kept) && (apart x242 (Fx.mk [] Did.kept) && (apart x209 (Fx.mk [] Did.kept) &&
 (apart x193 (Fx.mk [] Did.kept) && true)))) (callS (orc vE) 10 [AV.agg [AV.int .u8 n265, AV.str l268, AV.int .i64 n271, v272], AV.int .i64 n54] st259 fun v274 st275 _x => unT v274 fun l277 => nthS l277 0 fun v278 => asS
 v278 fun l279 => unT v274 fun l280 => nthS l280 1 fun v281 => asI .i64 v281 fun n282 => bindO (ifB (!l171 == l279) (some ([AV.bool true], st275)) (some ([AV.bool (n174 != n282)], st275))) fun c283 => unc (Prod.fst c283)
 fun v284 l285 => asB v284 fun b286 => un0 l285 (ifB b286 (some (AV.bool false)) (ifB (n174 != 0) (some (AV.bool true)) (loadS 4 true (AV.mp (St.h st74) 0) (Prod.snd c283) fun v287 l288 => unA v287 fun l290 => unc l290
 fun v291 l292 => asI .u8 v291 fun n293 => unc l292 fun v294 l295 => asS v294 fun l296 => unc l295 fun v297 l298 => asI .i64 v297 fun n299 => unc l298 fun v300 l301 => un0 l301 (callS (orc vE) 19 [AV.int .u8 4] (Prod.snd
 c283) fun v302 st303 x304 => unA v302 fun l306 => unc l306 fun v307 l308 => asI .u8 v307 fun n309 => unc l308 fun v310 l311 => asS v310 fun l312 => unc l311 fun v313 l314 => asI .i64 v313 fun n315 => unc l314 fun v316
 l317 => un0 l317 (chk (apart (Fx.mk l288 Did.kept) x304 && true) (loadS 4 true (AV.mp (St.h st89) 0) st303 fun v318 l319 => unA v318 fun l321 => unc l321 fun v322 l323 => asI .u8 v322 fun n324 => unc l323 fun v325 l326
 => asS v325 fun l327 => unc l326 fun v328 l329 => asI .i64 v328 fun n330 => unc l329 fun v331 l332 => un0 l332 (chk (apart x304 (Fx.mk l319 Did.kept) && true) (asOne v300 (asOne v316 (asOne v331 (asOne v300 (fit1 v300
 fun v333 => asOne v316 (fit1 v316 fun v334 => asOne v331 (fit1 v331 fun v335 => callS (orc vE) 20 [AV.sl 4 [AV.agg [AV.int .u8 n293, AV.str l296, AV.int .i64 n299, v333], AV.agg [AV.int .u8 n309, AV.str l312, AV.int
 .i64 n315, v334], AV.agg [AV.int .u8 n324, AV.str l327, AV.int .i64 n330, v335]] Perm.shut] st303 fun v336 st337 x338 => unA v336 fun l340 => unc l340 fun v341 l342 => asI .u8 v341 fun n343 => unc l342 fun v344 l345 =>
 asS v344 fun l346 => unc l345 fun v347 l348 => asI .i64 v347 fun n349 => unc l348 fun v350 l351 => un0 l351 (chk (apart x338 (Fx.mk [] Did.kept) && (apart x304 (Fx.mk [] Did.kept) && true)) (callS (orc vE) 10 [AV.agg
 [AV.int .u8 n343, AV.str l346, AV.int .i64 n349, v350], AV.int .i64 n54] st337 fun v352 st353 _x => unT v352 fun l355 => nthS l355 0 fun v356 => asS v356 fun l357 => unT v352 fun l358 => nthS l358 1 fun v359 => asI .i64
 v359 fun n360 => loadS 4 true (AV.mp (St.h st74) 0) st353 fun v361 l362 => unA v361 fun l364 => unc l364 fun v365 l366 => asI .u8 v365 fun n367 => unc l366 fun v368 l369 => asS v368 fun l370 => unc l369 fun v371 l372 =>
 asI .i64 v371 fun n373 => unc l372 fun v374 l375 => un0 l375 (callS (orc vE) 19 [AV.int .u8 4] st353 fun v376 st377 x378 => unA v376 fun l380 => unc l380 fun v381 l382 => asI .u8 v381 fun n383 => unc l382 fun v384 l385
 => asS v384 fun l386 => unc l385 fun v387 l388 => asI .i64 v387 fun n389 => unc l388 fun v390 l391 => un0 l391 (chk (apart (Fx.mk l362 Did.kept) x378 && true) (asOne v374 (asOne v390 (asOne v374 (fit1 v374 fun v392 =>
 asOne v390 (fit1 v390 fun v393 => callS (orc vE) 20 [AV.sl 4 [AV.agg [AV.int .u8 n367, AV.str l370, AV.int .i64 n373, v392], AV.agg [AV.int .u8 n383, AV.str l386, AV.int .i64 n389, v393]] Perm.shut] st377 fun v394 st395
 x396 => unA v394 fun l398 => unc l398 fun v399 l400 => asI .u8 v399 fun n401 => unc l400 fun v402 l403 => asS v402 fun l404 => unc l403 fun v405 l406 => asI .i64 v405 fun n407 => unc l406 fun v408 l409 => un0 l409 (chk
 (apart x396 (Fx.mk [] Did.kept) && (apart x378 (Fx.mk [] Did.kept) && true)) (callS (orc vE) 10 [AV.agg [AV.int .u8 n401, AV.str l404, AV.int .i64 n407, v408], AV.int .i64 n54] st395 fun v410 st411 _x => unT v410 fun
 l413 => nthS l413 0 fun v414 => asS v414 fun l415 => unT v410 fun l416 => nthS l416 1 fun v417 => asI .i64 v417 fun n418 => loadS 4 true (AV.mp (St.h st89) 0) st411 fun v419 _x => unA v419 fun l422 => unc l422 fun v423
 l424 => asI .u8 v423 fun n425 => unc l424 fun v426 l427 => asS v426 fun l428 => unc l427 fun v429 l430 => asI .i64 v429 fun n431 => unc l430 fun v432 l433 => un0 l433 (callS (orc vE) 10 [AV.agg [AV.int .u8 n425, AV.str
 l428, AV.int .i64 n431, v432], AV.int .i64 n54] st411 fun v434 st435 _x => unT v434 fun l437 => nthS l437 0 fun v438 => asS v438 fun l439 => unT v434 fun l440 => nthS l440 1 fun v441 => asI .i64 v441 fun n442 => bindO
 (ifB (n360 == 0) (ifB (n418 == 0) (ifB (n442 == 0) (chk (Nat.ble (List.length l415 + List.length l439) 9223372036854775807) (letV (l415 ++ l439) fun l443 => some ([AV.bool (l357 == l443)], st435))) (some ([AV.bool
 false], st435))) (some ([AV.bool false], st435))) (some ([AV.bool false], st435))) fun c444 => unc (Prod.fst c444) fun v445 l446 => asB v445 fun b447 => un0 l446 (some (AV.bool
 b447)))))))))))))))))))))))))))))))))))))))))))))))))))))))))))))))))))))
theorem g7_eq (x0 x1 x2 : AV) : bareS vE 7 [x0, x1, x2] = g7 x0 x1 x2 := by kernel_rfl
/-- rostrum/rostrumlaw19.parts -/
noncomputable def g8_L1 (n13 : Int) (v14 : AV) : Car → Option (Car ⊕ Nat × Car) := fun c17 => unc (Prod.fst c17) fun v18 l19 => asI .i64 v18 fun n20 => unc l19 fun v21 l22 => asI .i64 v21 fun n23 => un0 l22 (bindO (lenS
 v14 fun k24 => ifB (decide (n23 < (↑k24 : Int))) (some ([AV.bool (decide (n20 < n13))], Prod.snd c17)) (some ([AV.bool false], Prod.snd c17))) fun c25 => unc (Prod.fst c25) fun v26 l27 => asB v26 fun b28 => un0 l27 (ifB
 b28 (idxA 4 v14 n23 (Prod.snd c25) fun v29 _x => loadS 4 true v29 (Prod.snd c25) fun v31 _x => unA v31 fun l34 => unc l34 fun v35 l36 => asI .u8 v35 fun n37 => unc l36 fun v38 l39 => asS v38 fun l40 => unc l39 fun v41
 l42 => asI .i64 v41 fun n43 => unc l42 fun v44 l45 => un0 l45 (letV (IntKind.wrap .i64 (n13 - n20)) fun n46 => callS (orc vE) 8 [AV.agg [AV.int .u8 n37, AV.str l40, AV.int .i64 n43, v44], AV.int .i64 n46] (Prod.snd c25)
 fun v47 st48 _x => asI .i64 v47 fun n50 => letV (IntKind.wrap .i64 (n20 + n50)) fun n51 => letV (IntKind.wrap .i64 (n23 + 1)) fun n52 => some (Sum.inl ([AV.int .i64 n51, AV.int .i64 n52], st48)))) (some (Sum.inr (0,
 [AV.int .i64 n20], Prod.snd c25)))))
noncomputable def g8 : AV → AV → Option AV := fun x0 x1 => unA x0 fun l1 => unc l1 fun v2 l3 => asI .u8 v2 fun _x => unc l3 fun v5 l6 => asS v5 fun l7 => unc l6 fun v8 l9 => asI .i64 v8 fun _x => unc l9 fun v11 l12 =>
 un0 l12 (asI .i64 x1 fun n13 => asOne v11 (fit1 v11 fun v14 => letV (IntKind.wrap .i64 (Int.tdiv (↑(List.length l7) : Int) 20)) fun n15 => letV (IntKind.wrap .i64 (1 + n15)) fun n16 => bindO (loopO (g8_L1 n13 v14)
 ([AV.int .i64 n16, AV.int .i64 0], St.mk 0 0 Tr.leaf)) fun c53 => unc (Prod.fst (Prod.snd c53)) fun v54 l55 => asI .i64 v54 fun n56 => un0 l55 (some (AV.int .i64 n56))))
theorem g8_eq (x0 x1 : AV) : bareS vE 8 [x0, x1] = g8 x0 x1 := by kernel_rfl
/-- rostrum/rostrumlaw19.awake -/
noncomputable def g9 : Option AV := callS (orc vE) 18 [AV.str [108, 101, 116, 32, 120, 32, 61]] (St.mk 0 0 Tr.leaf) fun v0 st1 _x => unA v0 fun l4 => unc l4 fun v5 l6 => asI .u8 v5 fun n7 => unc l6 fun v8 l9 => asS v8
 fun l10 => unc l9 fun v11 l12 => asI .i64 v11 fun n13 => unc l12 fun v14 l15 => un0 l15 (callS (orc vE) 19 [AV.int .u8 2] st1 fun v16 st17 _x => unA v16 fun l20 => unc l20 fun v21 l22 => asI .u8 v21 fun n23 => unc l22
 fun v24 l25 => asS v24 fun l26 => unc l25 fun v27 l28 => asI .i64 v27 fun n29 => unc l28 fun v30 l31 => un0 l31 (callS (orc vE) 18 [AV.str [49]] st17 fun v32 st33 _x => unA v32 fun l36 => unc l36 fun v37 l38 => asI .u8
 v37 fun n39 => unc l38 fun v40 l41 => asS v40 fun l42 => unc l41 fun v43 l44 => asI .i64 v43 fun n45 => unc l44 fun v46 l47 => un0 l47 (asOne v30 (asOne v46 (asOne v30 (fit1 v30 fun v48 => asOne v46 (fit1 v46 fun v49 =>
 asOne v14 (asOne v14 (fit1 v14 fun v51 => callS (orc vE) 17 [AV.sl 4 [AV.agg [AV.int .u8 n7, AV.str l10, AV.int .i64 n13, v51], AV.agg [AV.int .u8 5, AV.str [], AV.int .i64 2, AV.sl 4 [AV.agg [AV.int .u8 n23, AV.str
 l26, AV.int .i64 n29, v48], AV.agg [AV.int .u8 n39, AV.str l42, AV.int .i64 n45, v49]] Perm.shut]] Perm.shut] st33 fun v52 st53 _x => unA v52 fun l56 => unc l56 fun v57 l58 => asI .u8 v57 fun n59 => unc l58 fun v60 l61
 => asS v60 fun l62 => unc l61 fun v63 l64 => asI .i64 v63 fun n65 => unc l64 fun v66 l67 => un0 l67 (letSt (St.add st53 (VM.Obj.cells 32 [AV.int .u8 0, AV.str [], AV.int .i64 0, AV.nils])) fun st68 => asOne v66 (storeS
 (orc vE) 4 (AV.mp (St.h st53) 0) (AV.agg [AV.int .u8 n59, AV.str l62, AV.int .i64 n65, v66]) [AV.int .u8 n59, AV.str l62, AV.int .i64 n65, v66] st68 fun _x st70 _x_1 => loadS 4 true (AV.mp (St.h st53) 0) st70 fun v72 _x
 => unA v72 fun l75 => unc l75 fun v76 l77 => asI .u8 v76 fun n78 => unc l77 fun v79 l80 => asS v79 fun l81 => unc l80 fun v82 l83 => asI .i64 v82 fun n84 => unc l83 fun v85 l86 => un0 l86 (callS (orc vE) 10 [AV.agg
 [AV.int .u8 n78, AV.str l81, AV.int .i64 n84, v85], AV.int .i64 9] st70 fun v87 st88 _x => unT v87 fun l90 => nthS l90 0 fun v91 => asS v91 fun l92 => unT v87 fun l93 => nthS l93 1 fun v94 => asI .i64 v94 fun n95 =>
 loadS 4 true (AV.mp (St.h st53) 0) st88 fun v96 _x => unA v96 fun l99 => unc l99 fun v100 l101 => asI .u8 v100 fun n102 => unc l101 fun v103 l104 => asS v103 fun l105 => unc l104 fun v106 l107 => asI .i64 v106 fun n108
 => unc l107 fun v109 l110 => un0 l110 (callS (orc vE) 10 [AV.agg [AV.int .u8 n102, AV.str l105, AV.int .i64 n108, v109], AV.int .i64 8] st88 fun v111 st112 _x => unT v111 fun l114 => nthS l114 0 fun v115 => asS v115 fun
 l116 => unT v111 fun l117 => nthS l117 1 fun v118 => asI .i64 v118 fun n119 => loadS 4 true (AV.mp (St.h st53) 0) st112 fun v120 _x => unA v120 fun l123 => unc l123 fun v124 l125 => asI .u8 v124 fun n126 => unc l125 fun
 v127 l128 => asS v127 fun l129 => unc l128 fun v130 l131 => asI .i64 v130 fun n132 => unc l131 fun v133 l134 => un0 l134 (callS (orc vE) 13 [AV.agg [AV.int .u8 n126, AV.str l129, AV.int .i64 n132, v133]] st112 fun v135
 st136 _x => unT v135 fun l138 => nthS l138 0 fun v139 => asS v139 fun l140 => unT v135 fun l141 => nthS l141 1 fun v142 => asB v142 fun b143 => bindO (ifB (n95 == 0) (ifB (l92 == [108, 101, 116, 32, 120, 32, 61, 32,
 49]) (ifB (n119 == 0) (ifB (l116 == [108, 101, 116, 32, 120, 32, 61, 10, 32, 32, 49]) (ifB b143 (ifB (l140 == l92) (loadS 4 true (AV.mp (St.h st53) 0) st136 fun v144 _x => unA v144 fun l147 => unc l147 fun v148 l149 =>
 asI .u8 v148 fun n150 => unc l149 fun v151 l152 => asS v151 fun l153 => unc l152 fun v154 l155 => asI .i64 v154 fun n156 => unc l155 fun v157 l158 => un0 l158 (callS (orc vE) 15 [AV.agg [AV.int .u8 n150, AV.str l153,
 AV.int .i64 n156, v157]] st136 fun v159 st160 _x => asB v159 fun b162 => some ([AV.bool b162], st160))) (some ([AV.bool false], st136))) (some ([AV.bool false], st136))) (some ([AV.bool false], st136))) (some ([AV.bool
 false], st136))) (some ([AV.bool false], st136))) (some ([AV.bool false], st136))) fun c163 => unc (Prod.fst c163) fun v164 l165 => asB v164 fun b166 => un0 l165 (some (AV.bool b166))))))))))))))))
theorem g9_eq : bareS vE 9 [] = g9 := by kernel_rfl
/-- rostrum/layout.Show -/
noncomputable def g10 : AV → AV → Option AV := fun x0 x1 => unA x0 fun l1 => unc l1 fun v2 l3 => asI .u8 v2 fun n4 => unc l3 fun v5 l6 => asS v5 fun l7 => unc l6 fun v8 l9 => asI .i64 v8 fun n10 => unc l9 fun v11 l12 =>
 un0 l12 (asI .i64 x1 fun n13 => asOne v11 (fit1 v11 fun v14 => bindO (ifB (decide (n13 < 1)) (some ([AV.bool true], St.mk 0 0 Tr.leaf)) (some ([AV.bool (decide (n13 > 200))], St.mk 0 0 Tr.leaf))) fun c15 => unc
 (Prod.fst c15) fun v16 l17 => asB v16 fun b18 => un0 l17 (ifB b18 (some (AV.tup [AV.str [], AV.int .i64 1])) (callS (orc vE) 15 [AV.agg [AV.int .u8 n4, AV.str l7, AV.int .i64 n10, v14]] (Prod.snd c15) fun v20 st21 _x =>
 asB v20 fun b23 => ifB (!b23) (some (AV.tup [AV.str [], AV.int .i64 4])) (letSt (St.add st21 (VM.Obj.cells 56 [AV.nilp, AV.nils, AV.int .i64 0, AV.int .i64 n13])) fun st25 => asOne v14 (asOne v14 (fit1 v14 fun v28 =>
 callS (orc vE) 23 [AV.mp (St.h st21) 0, AV.sl 6 [AV.agg [AV.int .u8 n4, AV.str l7, AV.int .i64 n10, v28, AV.int .i64 0, AV.bool false]] Perm.shut] st25 fun v29 _x _x_1 => asS v29 fun l32 => some (AV.tup [AV.str l32,
 AV.int .i64 0]))))))))
theorem g10_eq (x0 x1 : AV) : bareS vE 10 [x0, x1] = g10 x0 x1 := by kernel_rfl
/-- rostrum/rostrumlaw19.given -/
noncomputable def g11_L1 (v13 : AV) : Car → Option (Car ⊕ Nat × Car) := fun c15 => unc (Prod.fst c15) fun v16 l17 => asI .i64 v16 fun n18 => un0 l17 (lenS v13 fun k19 => ifB (decide (n18 < (↑k19 : Int))) (loadS 1 false
 (AV.mp 1 3) (Prod.snd c15) fun v20 l21 => idxA 4 v13 n18 (Prod.snd c15) fun v22 _x => loadS 4 true v22 (Prod.snd c15) fun v24 _x => unA v24 fun l27 => unc l27 fun v28 l29 => asI .u8 v28 fun n30 => unc l29 fun v31 l32 =>
 asS v31 fun l33 => unc l32 fun v34 l35 => asI .i64 v34 fun n36 => unc l35 fun v37 l38 => un0 l38 (callS (orc vE) 11 [AV.agg [AV.int .u8 n30, AV.str l33, AV.int .i64 n36, v37]] (Prod.snd c15) fun v39 st40 x41 => unA v39
 fun l43 => unc l43 fun v44 l45 => asI .u8 v44 fun n46 => unc l45 fun v47 l48 => asS v47 fun l49 => unc l48 fun v50 l51 => asI .i64 v50 fun n52 => unc l51 fun v53 l54 => un0 l54 (chk (apart (Fx.mk l21 Did.kept) x41 &&
 (apart (Fx.mk [] Did.kept) x41 && true)) (asOne v53 (asOne v53 (fit1 v53 fun v55 => asOne v55 (fit1 v55 fun v56 => appS 4 56 32 v20 [AV.agg [AV.int .u8 n46, AV.str l49, AV.int .i64 n52, v56]] st40 fun v57 st58 _x =>
 asOne v57 (asOne v57 (storeS (orc vE) 1 (AV.mp 1 3) v57 [v57] st58 fun _x st61 _x_1 => letV (IntKind.wrap .i64 (n18 + 1)) fun n63 => some (Sum.inl ([AV.int .i64 n63], st61))))))))))) (some (Sum.inr (0, [], Prod.snd
 c15))))
noncomputable def g11 : AV → Option AV := fun x0 => unA x0 fun l1 => unc l1 fun v2 l3 => asI .u8 v2 fun n4 => unc l3 fun v5 l6 => asS v5 fun l7 => unc l6 fun v8 l9 => asI .i64 v8 fun n10 => unc l9 fun v11 l12 => un0 l12
 (asOne v11 (fit1 v11 fun v13 => bindO (loopO (g11_L1 v13) ([AV.int .i64 0], St.mk 2 0 (Tr.node (some (VM.Obj.cells 32 [AV.int .u8 0, AV.str [], AV.int .i64 0, AV.nils])) (Tr.node (some (VM.Obj.cells 32 [AV.int .u8 n4,
 AV.str l7, AV.int .i64 n10, AV.nils])) Tr.leaf Tr.leaf) Tr.leaf))) fun c64 => un0 (Prod.fst (Prod.snd c64)) (loadS 4 true (AV.mp 1 0) (Prod.snd (Prod.snd c64)) fun v65 _x => unA v65 fun l68 => unc l68 fun v69 l70 => asI
 .u8 v69 fun n71 => unc l70 fun v72 l73 => asS v72 fun l74 => unc l73 fun v75 l76 => asI .i64 v75 fun n77 => unc l76 fun v78 l79 => un0 l79 (asOne v78 (storeS (orc vE) 4 (AV.mp 0 0) (AV.agg [AV.int .u8 n71, AV.str l74,
 AV.int .i64 n77, v78]) [AV.int .u8 n71, AV.str l74, AV.int .i64 n77, v78] (Prod.snd (Prod.snd c64)) fun _x st81 _x_1 => loadS 4 true (AV.mp 0 0) st81 fun v83 _x => unA v83 fun l86 => unc l86 fun v87 l88 => asI .u8 v87
 fun n89 => unc l88 fun v90 l91 => asS v90 fun l92 => unc l91 fun v93 l94 => asI .i64 v93 fun n95 => unc l94 fun v96 l97 => un0 l97 (frzS st81 0 (AV.agg [AV.int .u8 n89, AV.str l92, AV.int .i64 n95, v96]) fun v98 => some
 v98))))))
theorem g11_eq (x0 : AV) : bareS vE 11 [x0] = g11 x0 := by kernel_rfl
/-- rostrum/rostrumref19.Show -/
noncomputable def g12 : AV → AV → Option AV := fun x0 x1 => unA x0 fun l1 => unc l1 fun v2 l3 => asI .u8 v2 fun n4 => unc l3 fun v5 l6 => asS v5 fun l7 => unc l6 fun v8 l9 => asI .i64 v8 fun n10 => unc l9 fun v11 l12 =>
 un0 l12 (asI .i64 x1 fun n13 => asOne v11 (fit1 v11 fun v14 => bindO (ifB (decide (n13 < 1)) (some ([AV.bool true], St.mk 0 0 Tr.leaf)) (some ([AV.bool (decide (n13 > 200))], St.mk 0 0 Tr.leaf))) fun c15 => unc
 (Prod.fst c15) fun v16 l17 => asB v16 fun b18 => un0 l17 (ifB b18 (some (AV.tup [AV.str [], AV.int .i64 1])) (callS (orc vE) 16 [AV.agg [AV.int .u8 n4, AV.str l7, AV.int .i64 n10, v14]] (Prod.snd c15) fun v20 st21 _x =>
 asB v20 fun b23 => ifB (!b23) (some (AV.tup [AV.str [], AV.int .i64 4])) (asOne v14 (asOne v14 (fit1 v14 fun v26 => callS (orc vE) 24 [AV.sl 6 [AV.agg [AV.int .u8 n4, AV.str l7, AV.int .i64 n10, v26, AV.int .i64 0,
 AV.bool false]] Perm.shut, AV.int .i64 n13] st21 fun v27 _x _x_1 => asS v27 fun l30 => some (AV.tup [AV.str l30, AV.int .i64 0]))))))))
theorem g12_eq (x0 x1 : AV) : bareS vE 12 [x0, x1] = g12 x0 x1 := by kernel_rfl
/-- rostrum/layout.Flat -/
noncomputable def g13 : AV → Option AV := fun x0 => unA x0 fun l1 => unc l1 fun v2 l3 => asI .u8 v2 fun n4 => unc l3 fun v5 l6 => asS v5 fun l7 => unc l6 fun v8 l9 => asI .i64 v8 fun n10 => unc l9 fun v11 l12 => un0 l12
 (asOne v11 (fit1 v11 fun v13 => bindO (callS (orc vE) 15 [AV.agg [AV.int .u8 n4, AV.str l7, AV.int .i64 n10, v13]] (St.mk 0 0 Tr.leaf) fun v15 st16 _x => asB v15 fun b18 => ifB (!b18) (some ([AV.bool true], st16))
 (callS (orc vE) 25 [AV.agg [AV.int .u8 n4, AV.str l7, AV.int .i64 n10, v13]] st16 fun v20 st21 _x => asB v20 fun b23 => some ([AV.bool b23], st21))) fun c24 => unc (Prod.fst c24) fun v25 l26 => asB v25 fun b27 => un0
 l26 (ifB b27 (some (AV.tup [AV.str [], AV.bool false])) (letSt (St.add (Prod.snd c24) (VM.Obj.cells 56 [AV.nilp, AV.nils, AV.int .i64 0, AV.int .i64 0])) fun st29 => asOne v13 (asOne v13 (fit1 v13 fun v32 => callS (orc
 vE) 23 [AV.mp (St.h (Prod.snd c24)) 0, AV.sl 6 [AV.agg [AV.int .u8 n4, AV.str l7, AV.int .i64 n10, v32, AV.int .i64 0, AV.bool true]] Perm.shut] st29 fun v33 _x _x_1 => asS v33 fun l36 => some (AV.tup [AV.str l36,
 AV.bool true])))))))
theorem g13_eq (x0 : AV) : bareS vE 13 [x0] = g13 x0 := by kernel_rfl
/-- rostrum/rostrumref19.Flat -/
noncomputable def g14 : AV → Option AV := fun x0 => unA x0 fun l1 => unc l1 fun v2 l3 => asI .u8 v2 fun n4 => unc l3 fun v5 l6 => asS v5 fun l7 => unc l6 fun v8 l9 => asI .i64 v8 fun n10 => unc l9 fun v11 l12 => un0 l12
 (asOne v11 (fit1 v11 fun v13 => bindO (callS (orc vE) 16 [AV.agg [AV.int .u8 n4, AV.str l7, AV.int .i64 n10, v13]] (St.mk 0 0 Tr.leaf) fun v15 st16 _x => asB v15 fun b18 => ifB (!b18) (some ([AV.bool true], st16))
 (callS (orc vE) 26 [AV.agg [AV.int .u8 n4, AV.str l7, AV.int .i64 n10, v13]] st16 fun v20 st21 _x => asB v20 fun b23 => some ([AV.bool b23], st21))) fun c24 => unc (Prod.fst c24) fun v25 l26 => asB v25 fun b27 => un0
 l26 (ifB b27 (some (AV.tup [AV.str [], AV.bool false])) (asOne v13 (asOne v13 (fit1 v13 fun v30 => callS (orc vE) 24 [AV.sl 6 [AV.agg [AV.int .u8 n4, AV.str l7, AV.int .i64 n10, v30, AV.int .i64 0, AV.bool true]]
 Perm.shut, AV.int .i64 1] (Prod.snd c24) fun v31 _x _x_1 => asS v31 fun l34 => some (AV.tup [AV.str l34, AV.bool true])))))))
theorem g14_eq (x0 : AV) : bareS vE 14 [x0] = g14 x0 := by kernel_rfl
/-- rostrum/layout.May -/
noncomputable def g15 : AV → Option AV := fun x0 => unA x0 fun l1 => unc l1 fun v2 l3 => asI .u8 v2 fun n4 => unc l3 fun v5 l6 => asS v5 fun l7 => unc l6 fun v8 l9 => asI .i64 v8 fun n10 => unc l9 fun v11 l12 => un0 l12
 (asOne v11 (fit1 v11 fun v13 => bindO (ifB (n4 == 1) (bindO (ifB (n10 == 0) (lenS v13 fun k14 => ifB ((↑k14 : Int) == 0) (planS (orc vE) (primP (Prim.lib libValid) [AV.str l7]) (St.mk 0 0 Tr.leaf) fun v15 st16 _x => asB
 v15 fun b18 => ifB b18 (planS (orc vE) (primP (Prim.lib libContains) [AV.str l7, AV.str [10]]) st16 fun v19 st20 _x => asB v19 fun b22 => ifB (!b22) (planS (orc vE) (primP (Prim.lib libContains) [AV.str l7, AV.str
 [13]]) st20 fun v23 st24 _x => asB v23 fun b26 => some ([AV.bool !b26], st24)) (some ([AV.bool false], st20))) (some ([AV.bool false], st16))) (some ([AV.bool false], St.mk 0 0 Tr.leaf))) (some ([AV.bool false], St.mk 0
 0 Tr.leaf))) fun c27 => unc (Prod.fst c27) fun v28 l29 => asB v28 fun b30 => un0 l29 (some ([AV.bool b30], Prod.snd c27))) (bindO (ifB (n4 == 2) (some ([AV.bool (n4 == 2)], St.mk 0 0 Tr.leaf)) (bindO (ifB (n4 == 3)
 (some ([AV.bool (n4 == 3)], St.mk 0 0 Tr.leaf)) (some ([AV.bool (n4 == 4)], St.mk 0 0 Tr.leaf))) fun c31 => unc (Prod.fst c31) fun v32 l33 => asB v32 fun b34 => un0 l33 (some ([AV.bool b34], Prod.snd c31)))) fun c35 =>
 unc (Prod.fst c35) fun v36 l37 => asB v36 fun b38 => un0 l37 (bindO (ifB b38 (bindO (ifB (n10 == 0) (lenS v13 fun k39 => ifB ((↑k39 : Int) == 0) (some ([AV.bool (l7 == [])], Prod.snd c35)) (some ([AV.bool false],
 Prod.snd c35))) (some ([AV.bool false], Prod.snd c35))) fun c40 => unc (Prod.fst c40) fun v41 l42 => asB v41 fun b43 => un0 l42 (some ([AV.bool b43], Prod.snd c40))) (bindO (ifB (n4 == 5) (bindO (ifB (decide (n10 ≥ 0))
 (ifB (decide (n10 ≤ 200)) (some ([AV.bool (l7 == [])], Prod.snd c35)) (some ([AV.bool false], Prod.snd c35))) (some ([AV.bool false], Prod.snd c35))) fun c44 => unc (Prod.fst c44) fun v45 l46 => asB v45 fun b47 => un0
 l46 (some ([AV.bool b47], Prod.snd c44))) (bindO (ifB (n4 == 6) (some ([AV.bool (n4 == 6)], Prod.snd c35)) (some ([AV.bool (n4 == 7)], Prod.snd c35))) fun c48 => unc (Prod.fst c48) fun v49 l50 => asB v49 fun b51 => un0
 l50 (bindO (ifB b51 (bindO (ifB (n10 == 0) (some ([AV.bool (l7 == [])], Prod.snd c48)) (some ([AV.bool false], Prod.snd c48))) fun c52 => unc (Prod.fst c52) fun v53 l54 => asB v53 fun b55 => un0 l54 (some ([AV.bool
 b55], Prod.snd c52))) (some ([AV.bool false], Prod.snd c48))) fun c56 => unc (Prod.fst c56) fun v57 l58 => asB v57 fun b59 => un0 l58 (some ([AV.bool b59], Prod.snd c56))))) fun c60 => unc (Prod.fst c60) fun v61 l62 =>
 asB v61 fun b63 => un0 l62 (some ([AV.bool b63], Prod.snd c60)))) fun c64 => unc (Prod.fst c64) fun v65 l66 => asB v65 fun b67 => un0 l66 (some ([AV.bool b67], Prod.snd c64))))) fun c68 => unc (Prod.fst c68) fun v69 l70
 => asB v69 fun b71 => un0 l70 (bindO (ifB b71 (callS (orc vE) 29 [v13, AV.fn (Fn.func 30) [] []] (Prod.snd c68) fun v72 st73 _x => asB v72 fun b75 => some ([AV.bool !b75], st73)) (some ([AV.bool false], Prod.snd c68)))
 fun c76 => unc (Prod.fst c76) fun v77 l78 => asB v77 fun b79 => un0 l78 (some (AV.bool b79)))))
theorem g15_eq (x0 : AV) : bareS vE 15 [x0] = g15 x0 := by kernel_rfl
/-- rostrum/rostrumref19.May -/
noncomputable def g16_L1 (l7 : List UInt8) : Car → Option (Car ⊕ Nat × Car) := fun c23 => unc (Prod.fst c23) fun v24 l25 => asB v24 fun b26 => unc l25 fun v27 l28 => asI .i64 v27 fun n29 => un0 l28 (ifB (decide (n29 <
 (↑(List.length l7) : Int))) (bindO (ifB b26 (idxStr l7 n29 fun c30 => ifB ((↑(UInt8.toNat c30) : Int) != 10) (idxStr l7 n29 fun c31 => some ([AV.bool ((↑(UInt8.toNat c31) : Int) != 13)], Prod.snd c23)) (some ([AV.bool
 false], Prod.snd c23))) (some ([AV.bool false], Prod.snd c23))) fun c32 => unc (Prod.fst c32) fun v33 l34 => asB v33 fun b35 => un0 l34 (letV (IntKind.wrap .i64 (n29 + 1)) fun n36 => some (Sum.inl ([AV.bool b35, AV.int
 .i64 n36], Prod.snd c32)))) (some (Sum.inr (0, [AV.bool b26], Prod.snd c23))))
noncomputable def g16_L2 (v13 : AV) : Car → Option (Car ⊕ Nat × Car) := fun c82 => unc (Prod.fst c82) fun v83 l84 => asB v83 fun b85 => unc l84 fun v86 l87 => asI .i64 v86 fun n88 => un0 l87 (bindO (lenS v13 fun k89 =>
 ifB (decide (n88 < (↑k89 : Int))) (some ([AV.bool b85], Prod.snd c82)) (some ([AV.bool false], Prod.snd c82))) fun c90 => unc (Prod.fst c90) fun v91 l92 => asB v91 fun b93 => un0 l92 (ifB b93 (idxA 4 v13 n88 (Prod.snd
 c90) fun v94 _x => loadS 4 true v94 (Prod.snd c90) fun v96 _x => unA v96 fun l99 => unc l99 fun v100 l101 => asI .u8 v100 fun n102 => unc l101 fun v103 l104 => asS v103 fun l105 => unc l104 fun v106 l107 => asI .i64
 v106 fun n108 => unc l107 fun v109 l110 => un0 l110 (callS (orc vE) 16 [AV.agg [AV.int .u8 n102, AV.str l105, AV.int .i64 n108, v109]] (Prod.snd c90) fun v111 st112 _x => asB v111 fun b114 => letV (IntKind.wrap .i64
 (n88 + 1)) fun n115 => some (Sum.inl ([AV.bool b114, AV.int .i64 n115], st112)))) (some (Sum.inr (0, [AV.bool b85], Prod.snd c90)))))
noncomputable def g16 : AV → Option AV := fun x0 => unA x0 fun l1 => unc l1 fun v2 l3 => asI .u8 v2 fun n4 => unc l3 fun v5 l6 => asS v5 fun l7 => unc l6 fun v8 l9 => asI .i64 v8 fun n10 => unc l9 fun v11 l12 => un0 l12
 (asOne v11 (fit1 v11 fun v13 => bindO (ifB (n4 == 1) (bindO (ifB (n10 == 0) (lenS v13 fun k14 => ifB ((↑k14 : Int) == 0) (callS (orc vE) 31 [AV.str l7] (St.mk 0 0 Tr.leaf) fun v15 st16 _x => asB v15 fun b18 => some
 ([AV.bool b18], st16)) (some ([AV.bool false], St.mk 0 0 Tr.leaf))) (some ([AV.bool false], St.mk 0 0 Tr.leaf))) fun c19 => unc (Prod.fst c19) fun v20 l21 => asB v20 fun b22 => un0 l21 (bindO (loopO (g16_L1 l7)
 ([AV.bool b22, AV.int .i64 0], Prod.snd c19)) fun c37 => unc (Prod.fst (Prod.snd c37)) fun v38 l39 => asB v38 fun b40 => un0 l39 (some ([AV.bool b40], Prod.snd (Prod.snd c37))))) (bindO (ifB (n4 == 2) (some ([AV.bool
 (n4 == 2)], St.mk 0 0 Tr.leaf)) (bindO (ifB (n4 == 3) (some ([AV.bool (n4 == 3)], St.mk 0 0 Tr.leaf)) (some ([AV.bool (n4 == 4)], St.mk 0 0 Tr.leaf))) fun c41 => unc (Prod.fst c41) fun v42 l43 => asB v42 fun b44 => un0
 l43 (some ([AV.bool b44], Prod.snd c41)))) fun c45 => unc (Prod.fst c45) fun v46 l47 => asB v46 fun b48 => un0 l47 (bindO (ifB b48 (bindO (ifB (n10 == 0) (lenS v13 fun k49 => ifB ((↑k49 : Int) == 0) (some ([AV.bool (l7
 == [])], Prod.snd c45)) (some ([AV.bool false], Prod.snd c45))) (some ([AV.bool false], Prod.snd c45))) fun c50 => unc (Prod.fst c50) fun v51 l52 => asB v51 fun b53 => un0 l52 (some ([AV.bool b53], Prod.snd c50)))
 (bindO (ifB (n4 == 5) (bindO (ifB (decide (n10 ≥ 0)) (ifB (decide (n10 ≤ 200)) (some ([AV.bool (l7 == [])], Prod.snd c45)) (some ([AV.bool false], Prod.snd c45))) (some ([AV.bool false], Prod.snd c45))) fun c54 => unc
 (Prod.fst c54) fun v55 l56 => asB v55 fun b57 => un0 l56 (some ([AV.bool b57], Prod.snd c54))) (bindO (ifB (n4 == 6) (some ([AV.bool (n4 == 6)], Prod.snd c45)) (some ([AV.bool (n4 == 7)], Prod.snd c45))) fun c58 => unc
 (Prod.fst c58) fun v59 l60 => asB v59 fun b61 => un0 l60 (bindO (ifB b61 (bindO (ifB (n10 == 0) (some ([AV.bool (l7 == [])], Prod.snd c58)) (some ([AV.bool false], Prod.snd c58))) fun c62 => unc (Prod.fst c62) fun v63
 l64 => asB v63 fun b65 => un0 l64 (some ([AV.bool b65], Prod.snd c62))) (some ([AV.bool false], Prod.snd c58))) fun c66 => unc (Prod.fst c66) fun v67 l68 => asB v67 fun b69 => un0 l68 (some ([AV.bool b69], Prod.snd
 c66))))) fun c70 => unc (Prod.fst c70) fun v71 l72 => asB v71 fun b73 => un0 l72 (some ([AV.bool b73], Prod.snd c70)))) fun c74 => unc (Prod.fst c74) fun v75 l76 => asB v75 fun b77 => un0 l76 (some ([AV.bool b77],
 Prod.snd c74))))) fun c78 => unc (Prod.fst c78) fun v79 l80 => asB v79 fun b81 => un0 l80 (bindO (loopO (g16_L2 v13) ([AV.bool b81, AV.int .i64 0], Prod.snd c78)) fun c116 => unc (Prod.fst (Prod.snd c116)) fun v117 l118
 => asB v117 fun b119 => un0 l118 (some (AV.bool b119)))))
theorem g16_eq (x0 : AV) : bareS vE 16 [x0] = g16 x0 := by kernel_rfl
/-- rostrum/rostrumlaw19.group -/
noncomputable def g17 : AV → Option AV := fun x0 => asOne x0 (asOne x0 (frzS (St.mk 1 0 (Tr.node (some (VM.Obj.cells 32 [AV.int .u8 6, AV.str [], AV.int .i64 0, x0])) Tr.leaf Tr.leaf)) 0 (AV.agg [AV.int .u8 6, AV.str
 [], AV.int .i64 0, x0]) fun v2 => some v2))
theorem g17_eq (x0 : AV) : bareS vE 17 [x0] = g17 x0 := by kernel_rfl
/-- rostrum/rostrumlaw19.text -/
noncomputable def g18 : AV → Option AV := fun x0 => asS x0 fun l0 => some (AV.agg [AV.int .u8 1, AV.str l0, AV.int .i64 0, AV.nils])
theorem g18_eq (x0 : AV) : bareS vE 18 [x0] = g18 x0 := by kernel_rfl
/-- rostrum/rostrumlaw19.kind -/
noncomputable def g19 : AV → Option AV := fun x0 => asI .u8 x0 fun n0 => some (AV.agg [AV.int .u8 n0, AV.str [], AV.int .i64 0, AV.nils])
theorem g19_eq (x0 : AV) : bareS vE 19 [x0] = g19 x0 := by kernel_rfl
/-- rostrum/rostrumlaw19.row -/
noncomputable def g20 : AV → Option AV := fun x0 => asOne x0 (asOne x0 (frzS (St.mk 1 0 (Tr.node (some (VM.Obj.cells 32 [AV.int .u8 7, AV.str [], AV.int .i64 0, x0])) Tr.leaf Tr.leaf)) 0 (AV.agg [AV.int .u8 7, AV.str
 [], AV.int .i64 0, x0]) fun v2 => some v2))
theorem g20_eq (x0 : AV) : bareS vE 20 [x0] = g20 x0 := by kernel_rfl
/-- rostrum/rostrumlaw19.bare -/
noncomputable def g21_L1 (l0 : List UInt8) : Car → Option (Car ⊕ Nat × Car) := fun c1 => unc (Prod.fst c1) fun v2 l3 => unc l3 fun v4 l5 => asI .i64 v4 fun n6 => un0 l5 (ifB (decide (n6 < (↑(List.length l0) : Int)))
 (bindO (idxStr l0 n6 fun c7 => ifB ((↑(UInt8.toNat c7) : Int) != 32) (idxStr l0 n6 fun c8 => some ([AV.bool ((↑(UInt8.toNat c8) : Int) != 10)], Prod.snd c1)) (some ([AV.bool false], Prod.snd c1))) fun c9 => unc
 (Prod.fst c9) fun v10 l11 => asB v10 fun b12 => un0 l11 (bindO (ifB b12 (idxStr l0 n6 fun c13 => appS 1 1 5 v2 [AV.int .u8 (↑(UInt8.toNat c13) : Int)] (Prod.snd c9) fun v14 st15 _x => some ([v14], st15)) (some ([v2],
 Prod.snd c9))) fun c17 => unc (Prod.fst c17) fun v18 l19 => un0 l19 (letV (IntKind.wrap .i64 (n6 + 1)) fun n20 => some (Sum.inl ([v18, AV.int .i64 n20], Prod.snd c17))))) (some (Sum.inr (0, [v2], Prod.snd c1))))
noncomputable def g21 : AV → Option AV := fun x0 => asS x0 fun l0 => bindO (loopO (g21_L1 l0) ([AV.nils, AV.int .i64 0], St.mk 0 0 Tr.leaf)) fun c21 => unc (Prod.fst (Prod.snd c21)) fun v22 l23 => un0 l23 (planS (orc
 vE) (convertP (Env.T vE) 52 9 v22) (Prod.snd (Prod.snd c21)) fun v24 _x _x_1 => asS v24 fun l27 => letV l27 fun l28 => some (AV.str l28))
theorem g21_eq (x0 : AV) : bareS vE 21 [x0] = g21 x0 := by kernel_rfl
/-- rostrum/rostrumref19.Chars -/
noncomputable def g22_L1 (l0 : List UInt8) : Car → Option (Car ⊕ Nat × Car) := fun c1 => unc (Prod.fst c1) fun v2 l3 => asI .i64 v2 fun n4 => unc l3 fun v5 l6 => asI .i64 v5 fun n7 => un0 l6 (ifB (decide (n7 <
 (↑(List.length l0) : Int))) (bindO (idxStr l0 n7 fun c8 => ifB (decide ((↑(UInt8.toNat c8) : Int) < 128)) (some ([AV.bool true], Prod.snd c1)) (idxStr l0 n7 fun c9 => some ([AV.bool (decide ((↑(UInt8.toNat c9) : Int) >
 191))], Prod.snd c1))) fun c10 => unc (Prod.fst c10) fun v11 l12 => asB v11 fun b13 => un0 l12 (bindO (ifB b13 (letV (IntKind.wrap .i64 (n4 + 1)) fun n14 => some ([AV.int .i64 n14], Prod.snd c10)) (some ([AV.int .i64
 n4], Prod.snd c10))) fun c15 => unc (Prod.fst c15) fun v16 l17 => asI .i64 v16 fun n18 => un0 l17 (letV (IntKind.wrap .i64 (n7 + 1)) fun n19 => some (Sum.inl ([AV.int .i64 n18, AV.int .i64 n19], Prod.snd c15))))) (some
 (Sum.inr (0, [AV.int .i64 n4], Prod.snd c1))))
noncomputable def g22 : AV → Option AV := fun x0 => asS x0 fun l0 => bindO (loopO (g22_L1 l0) ([AV.int .i64 0, AV.int .i64 0], St.mk 0 0 Tr.leaf)) fun c20 => unc (Prod.fst (Prod.snd c20)) fun v21 l22 => asI .i64 v21 fun
 n23 => un0 l22 (some (AV.int .i64 n23))
theorem g22_eq (x0 : AV) : bareS vE 22 [x0] = g22 x0 := by kernel_rfl
/-- (*rostrum/layout.writer).lay -/
noncomputable def w23_L1 (x0 : AV) : Car → Option (Car ⊕ Nat × Car) := fun c0 => unc (Prod.fst c0) fun v1 l2 => un0 l2 (lenS v1 fun k3 => ifB (decide ((↑k3 : Int) > 0)) (letSt (St.add (Prod.snd c0) (VM.Obj.cells 59
 [AV.int .u8 0, AV.str [], AV.int .i64 0, AV.nils, AV.int .i64 0, AV.bool false])) fun st4 => callS (orc vE) 34 [v1] st4 fun v5 st6 _x => unT v5 fun l8 => nthS l8 0 fun v9 => unA v9 fun l11 => unc l11 fun v12 l13 => asI
 .u8 v12 fun n14 => unc l13 fun v15 l16 => asS v15 fun l17 => unc l16 fun v18 l19 => asI .i64 v18 fun n20 => unc l19 fun v21 l22 => unc l22 fun v23 l24 => asI .i64 v23 fun n25 => unc l24 fun v26 l27 => asB v26 fun b28 =>
 un0 l27 (unT v5 fun l29 => nthS l29 1 fun v30 => asOne v21 (storeS (orc vE) 6 (AV.mp (St.h (Prod.snd c0)) 0) (AV.agg [AV.int .u8 n14, AV.str l17, AV.int .i64 n20, v21, AV.int .i64 n25, AV.bool b28]) [AV.int .u8 n14,
 AV.str l17, AV.int .i64 n20, v21, AV.int .i64 n25, AV.bool b28] st6 fun _x st32 _x_1 => loadS 1 false (AV.mp (St.h (Prod.snd c0)) 0) st32 fun v34 _x => asI .u8 v34 fun n36 => bindO (ifB (n36 == 1) (loadS 1 false (AV.mp
 (St.h (Prod.snd c0)) 1) st32 fun v37 _x => asS v37 fun l39 => callS (orc vE) 32 [x0, AV.str l39] st32 fun _x st41 _x_2 => some ([v30], st41)) (bindO (ifB (n36 == 2) (some ([AV.bool (n36 == 2)], st32)) (bindO (ifB (n36
 == 3) (some ([AV.bool (n36 == 3)], st32)) (some ([AV.bool (n36 == 4)], st32))) fun c43 => unc (Prod.fst c43) fun v44 l45 => asB v44 fun b46 => un0 l45 (some ([AV.bool b46], Prod.snd c43)))) fun c47 => unc (Prod.fst c47)
 fun v48 l49 => asB v48 fun b50 => un0 l49 (bindO (ifB b50 (bindO (loadS 1 false (AV.mp (St.h (Prod.snd c0)) 5) (Prod.snd c47) fun v51 _x => asB v51 fun b53 => ifB (!b53) (some ([AV.bool true], Prod.snd c47)) (loadS 1
 false (AV.mp (St.h (Prod.snd c0)) 0) (Prod.snd c47) fun v54 _x => asI .u8 v54 fun n56 => some ([AV.bool (n56 == 4)], Prod.snd c47))) fun c57 => unc (Prod.fst c57) fun v58 l59 => asB v58 fun b60 => un0 l59 (bindO (ifB
 b60 (loadS 1 false (AV.mp (St.h (Prod.snd c0)) 4) (Prod.snd c57) fun v61 _x => asI .i64 v61 fun n63 => callS (orc vE) 33 [x0, AV.int .i64 n63] (Prod.snd c57) fun _x st65 _x_2 => some ([], st65)) (loadS 1 false (AV.mp
 (St.h (Prod.snd c0)) 0) (Prod.snd c57) fun v67 _x => asI .u8 v67 fun n69 => bindO (ifB (n69 == 2) (callS (orc vE) 32 [x0, AV.str [32]] (Prod.snd c57) fun _x st71 _x_2 => some ([], st71)) (some ([], Prod.snd c57))) fun
 c73 => un0 (Prod.fst c73) (some ([], Prod.snd c73)))) fun c74 => un0 (Prod.fst c74) (some ([v30], Prod.snd c74)))) (bindO (ifB (n36 == 6) (loadS 6 true (AV.mp (St.h (Prod.snd c0)) 0) (Prod.snd c47) fun v75 _x => unA v75
 fun l78 => unc l78 fun v79 l80 => asI .u8 v79 fun n81 => unc l80 fun v82 l83 => asS v82 fun l84 => unc l83 fun v85 l86 => asI .i64 v85 fun n87 => unc l86 fun v88 l89 => unc l89 fun v90 l91 => asI .i64 v90 fun n92 => unc
 l91 fun v93 l94 => asB v93 fun b95 => un0 l94 (loadS 1 false (AV.mp (St.h (Prod.snd c0)) 4) (Prod.snd c47) fun v96 _x => asI .i64 v96 fun n98 => callS (orc vE) 35 [v30, AV.agg [AV.int .u8 n81, AV.str l84, AV.int .i64
 n87, v88, AV.int .i64 n92, AV.bool b95], AV.int .i64 n98, AV.bool true] (Prod.snd c47) fun v99 st100 _x => bindO (loadS 1 false (AV.mp (St.h (Prod.snd c0)) 5) st100 fun v102 _x => asB v102 fun b104 => ifB b104 (some
 ([AV.bool true], st100)) (loadS 4 true (AV.mp (St.h (Prod.snd c0)) 0) st100 fun v105 _x => unA v105 fun l108 => unc l108 fun v109 l110 => asI .u8 v109 fun n111 => unc l110 fun v112 l113 => asS v112 fun l114 => unc l113
 fun v115 l116 => asI .i64 v115 fun n117 => unc l116 fun v118 l119 => un0 l119 (callS (orc vE) 25 [AV.agg [AV.int .u8 n111, AV.str l114, AV.int .i64 n117, v118]] st100 fun v120 st121 _x => asB v120 fun b123 => ifB
 (!b123) (callS (orc vE) 36 [x0, v99] st121 fun v124 st125 _x => asB v124 fun b127 => some ([AV.bool b127], st125)) (some ([AV.bool false], st121))))) fun c128 => unc (Prod.fst c128) fun v129 l130 => asB v129 fun b131 =>
 un0 l130 (bindO (ifB b131 (some ([v99], Prod.snd c128)) (loadS 6 true (AV.mp (St.h (Prod.snd c0)) 0) (Prod.snd c128) fun v132 _x => unA v132 fun l135 => unc l135 fun v136 l137 => asI .u8 v136 fun n138 => unc l137 fun
 v139 l140 => asS v139 fun l141 => unc l140 fun v142 l143 => asI .i64 v142 fun n144 => unc l143 fun v145 l146 => unc l146 fun v147 l148 => asI .i64 v147 fun n149 => unc l148 fun v150 l151 => asB v150 fun b152 => un0 l151
 (loadS 1 false (AV.mp (St.h (Prod.snd c0)) 4) (Prod.snd c128) fun v153 _x => asI .i64 v153 fun n155 => callS (orc vE) 35 [v30, AV.agg [AV.int .u8 n138, AV.str l141, AV.int .i64 n144, v145, AV.int .i64 n149, AV.bool
 b152], AV.int .i64 n155, AV.bool false] (Prod.snd c128) fun v156 st157 _x => some ([v156], st157)))) fun c159 => unc (Prod.fst c159) fun v160 l161 => un0 l161 (some ([v160], Prod.snd c159))))) (loadS 6 true (AV.mp (St.h
 (Prod.snd c0)) 0) (Prod.snd c47) fun v162 _x => unA v162 fun l165 => unc l165 fun v166 l167 => asI .u8 v166 fun n168 => unc l167 fun v169 l170 => asS v169 fun l171 => unc l170 fun v172 l173 => asI .i64 v172 fun n174 =>
 unc l173 fun v175 l176 => unc l176 fun v177 l178 => asI .i64 v177 fun n179 => unc l178 fun v180 l181 => asB v180 fun b182 => un0 l181 (loadS 1 false (AV.mp (St.h (Prod.snd c0)) 4) (Prod.snd c47) fun v183 _x => asI .i64
 v183 fun n185 => loadS 1 false (AV.mp (St.h (Prod.snd c0)) 2) (Prod.snd c47) fun v186 _x => asI .i64 v186 fun n188 => letV (IntKind.wrap .i64 (n185 + n188)) fun n189 => loadS 1 false (AV.mp (St.h (Prod.snd c0)) 5)
 (Prod.snd c47) fun v190 _x => asB v190 fun b192 => callS (orc vE) 35 [v30, AV.agg [AV.int .u8 n168, AV.str l171, AV.int .i64 n174, v175, AV.int .i64 n179, AV.bool b182], AV.int .i64 n189, AV.bool b192] (Prod.snd c47)
 fun v193 st194 _x => some ([v193], st194)))) fun c196 => unc (Prod.fst c196) fun v197 l198 => un0 l198 (some ([v197], Prod.snd c196)))) fun c199 => unc (Prod.fst c199) fun v200 l201 => un0 l201 (some ([v200], Prod.snd
 c199))))) fun c202 => unc (Prod.fst c202) fun v203 l204 => un0 l204 (some (Sum.inl ([v203], Prod.snd c202)))))) (some (Sum.inr (0, [], Prod.snd c0))))
noncomputable def w23 : AV → AV → St → Option (AV × St) := fun x0 x1 st => bindO (loopO (w23_L1 x0) ([x1], st)) fun c205 => un0 (Prod.fst (Prod.snd c205)) (chk (notNil x0) (fldA 0 x0 fun v206 => planS (orc vE) (primP
 (Prim.builderString 5) [v206]) (Prod.snd (Prod.snd c205)) fun v207 st208 _x => asS v207 fun l210 => some (AV.str l210, st208)))
theorem w23_eq (x0 x1 : AV) (st : St) : wideS vE 23 [x0, x1] st = w23 x0 x1 st := by kernel_rfl
/-- rostrum/rostrumref19.lay -/
noncomputable def g24_L1 (c1 : Car) : Car → Option (Car ⊕ Nat × Car) := fun c225 => unc (Prod.fst c225) fun v226 l227 => asS v226 fun l228 => unc l227 fun v229 l230 => asI .i64 v229 fun n231 => un0 l230 (loadS 1 false
 (AV.mp (St.h (Prod.snd c1)) 4) (Prod.snd c225) fun v232 _x => asI .i64 v232 fun n234 => ifB (decide (n231 < n234)) (chk (Nat.ble ((List.length l228 + 1)) 9223372036854775807) (letV (l228 ++ [32]) fun l235 => letV
 (IntKind.wrap .i64 (n231 + 1)) fun n236 => some (Sum.inl ([AV.str l235, AV.int .i64 n236], Prod.snd c225)))) (some (Sum.inr (0, [AV.str l228], Prod.snd c225))))
noncomputable def g24_L2 (n0 : Int) : Car → Option (Car ⊕ Nat × Car) := fun c1 => unc (Prod.fst c1) fun v2 l3 => unc l3 fun v4 l5 => asS v4 fun l6 => unc l5 fun v7 l8 => asI .i64 v7 fun n9 => un0 l8 (lenS v2 fun k10 =>
 ifB (decide ((↑k10 : Int) > 0)) (bindO (idxA 6 v2 0 (Prod.snd c1) fun v11 _x => loadS 6 true v11 (Prod.snd c1) fun v13 _x => unA v13 fun l16 => unc l16 fun v17 l18 => asI .u8 v17 fun n19 => unc l18 fun v20 l21 => asS
 v20 fun l22 => unc l21 fun v23 l24 => asI .i64 v23 fun n25 => unc l24 fun v26 l27 => unc l27 fun v28 l29 => asI .i64 v28 fun n30 => unc l29 fun v31 l32 => asB v31 fun b33 => un0 l32 (letSt (St.add (Prod.snd c1)
 (VM.Obj.cells 64 [AV.int .u8 0, AV.str [], AV.int .i64 0, AV.nils, AV.int .i64 0, AV.bool false])) fun st34 => asOne v26 (storeS (orc vE) 6 (AV.mp (St.h (Prod.snd c1)) 0) (AV.agg [AV.int .u8 n19, AV.str l22, AV.int .i64
 n25, v26, AV.int .i64 n30, AV.bool b33]) [AV.int .u8 n19, AV.str l22, AV.int .i64 n25, v26, AV.int .i64 n30, AV.bool b33] st34 fun _x st36 _x_1 => sliceS 6 v2 (some 1) none none fun v38 => loadS 1 false (AV.mp (St.h
 (Prod.snd c1)) 0) st36 fun v39 _x => asI .u8 v39 fun n41 => bindO (ifB (n41 == 1) (loadS 1 false (AV.mp (St.h (Prod.snd c1)) 1) st36 fun v42 _x => asS v42 fun l44 => chk (Nat.ble (List.length l6 + List.length l44)
 9223372036854775807) (letV (l6 ++ l44) fun l45 => loadS 1 false (AV.mp (St.h (Prod.snd c1)) 1) st36 fun v46 _x => asS v46 fun l48 => callS (orc vE) 22 [AV.str l48] st36 fun v49 st50 _x => asI .i64 v49 fun n52 => letV
 (IntKind.wrap .i64 (n9 + n52)) fun n53 => some (Sum.inl ([v38, AV.str l45, AV.int .i64 n53], st50)))) (bindO (ifB (n41 == 5) (loadS 6 true (AV.mp (St.h (Prod.snd c1)) 0) st36 fun v54 _x => unA v54 fun l57 => unc l57 fun
 v58 l59 => asI .u8 v58 fun n60 => unc l59 fun v61 l62 => asS v61 fun l63 => unc l62 fun v64 l65 => asI .i64 v64 fun n66 => unc l65 fun v67 l68 => unc l68 fun v69 l70 => asI .i64 v69 fun n71 => unc l70 fun v72 l73 => asB
 v72 fun b74 => un0 l73 (loadS 1 false (AV.mp (St.h (Prod.snd c1)) 4) st36 fun v75 _x => asI .i64 v75 fun n77 => loadS 1 false (AV.mp (St.h (Prod.snd c1)) 2) st36 fun v78 _x => asI .i64 v78 fun n80 => letV (IntKind.wrap
 .i64 (n77 + n80)) fun n81 => loadS 1 false (AV.mp (St.h (Prod.snd c1)) 5) st36 fun v82 _x => asB v82 fun b84 => callS (orc vE) 38 [AV.agg [AV.int .u8 n60, AV.str l63, AV.int .i64 n66, v67, AV.int .i64 n71, AV.bool b74],
 AV.int .i64 n81, AV.bool b84, v38] st36 fun v85 st86 _x => some (Sum.inl ([v85, AV.str l6, AV.int .i64 n9], st86)))) (bindO (ifB (n41 == 6) (bindO (loadS 1 false (AV.mp (St.h (Prod.snd c1)) 5) st36 fun v88 _x => asB v88
 fun b90 => ifB b90 (some ([AV.bool true], st36)) (loadS 4 true (AV.mp (St.h (Prod.snd c1)) 0) st36 fun v91 _x => unA v91 fun l94 => unc l94 fun v95 l96 => asI .u8 v95 fun n97 => unc l96 fun v98 l99 => asS v98 fun l100
 => unc l99 fun v101 l102 => asI .i64 v101 fun n103 => unc l102 fun v104 l105 => un0 l105 (callS (orc vE) 26 [AV.agg [AV.int .u8 n97, AV.str l100, AV.int .i64 n103, v104]] st36 fun v106 st107 _x => asB v106 fun b109 =>
 ifB (!b109) (loadS 6 true (AV.mp (St.h (Prod.snd c1)) 0) st107 fun v110 _x => unA v110 fun l113 => unc l113 fun v114 l115 => asI .u8 v114 fun n116 => unc l115 fun v117 l118 => asS v117 fun l119 => unc l118 fun v120 l121
 => asI .i64 v120 fun n122 => unc l121 fun v123 l124 => unc l124 fun v125 l126 => asI .i64 v125 fun n127 => unc l126 fun v128 l129 => asB v128 fun b130 => un0 l129 (loadS 1 false (AV.mp (St.h (Prod.snd c1)) 4) st107 fun
 v131 _x => asI .i64 v131 fun n133 => callS (orc vE) 38 [AV.agg [AV.int .u8 n116, AV.str l119, AV.int .i64 n122, v123, AV.int .i64 n127, AV.bool b130], AV.int .i64 n133, AV.bool true, v38] st107 fun v134 st135 _x =>
 callS (orc vE) 39 [v134, AV.int .i64 n9, AV.int .i64 n0] st135 fun v137 st138 _x => asB v137 fun b140 => some ([AV.bool b140], st138))) (some ([AV.bool false], st107))))) fun c141 => unc (Prod.fst c141) fun v142 l143 =>
 asB v142 fun b144 => un0 l143 (loadS 6 true (AV.mp (St.h (Prod.snd c1)) 0) (Prod.snd c141) fun v145 _x => unA v145 fun l148 => unc l148 fun v149 l150 => asI .u8 v149 fun n151 => unc l150 fun v152 l153 => asS v152 fun
 l154 => unc l153 fun v155 l156 => asI .i64 v155 fun n157 => unc l156 fun v158 l159 => unc l159 fun v160 l161 => asI .i64 v160 fun n162 => unc l161 fun v163 l164 => asB v163 fun b165 => un0 l164 (loadS 1 false (AV.mp
 (St.h (Prod.snd c1)) 4) (Prod.snd c141) fun v166 _x => asI .i64 v166 fun n168 => callS (orc vE) 38 [AV.agg [AV.int .u8 n151, AV.str l154, AV.int .i64 n157, v158, AV.int .i64 n162, AV.bool b165], AV.int .i64 n168,
 AV.bool b144, v38] (Prod.snd c141) fun v169 st170 _x => some (Sum.inl ([v169, AV.str l6, AV.int .i64 n9], st170))))) (bindO (ifB (n41 == 7) (loadS 6 true (AV.mp (St.h (Prod.snd c1)) 0) st36 fun v172 _x => unA v172 fun
 l175 => unc l175 fun v176 l177 => asI .u8 v176 fun n178 => unc l177 fun v179 l180 => asS v179 fun l181 => unc l180 fun v182 l183 => asI .i64 v182 fun n184 => unc l183 fun v185 l186 => unc l186 fun v187 l188 => asI .i64
 v187 fun n189 => unc l188 fun v190 l191 => asB v190 fun b192 => un0 l191 (loadS 1 false (AV.mp (St.h (Prod.snd c1)) 4) st36 fun v193 _x => asI .i64 v193 fun n195 => loadS 1 false (AV.mp (St.h (Prod.snd c1)) 5) st36 fun
 v196 _x => asB v196 fun b198 => callS (orc vE) 38 [AV.agg [AV.int .u8 n178, AV.str l181, AV.int .i64 n184, v185, AV.int .i64 n189, AV.bool b192], AV.int .i64 n195, AV.bool b198, v38] st36 fun v199 st200 _x => some
 (Sum.inl ([v199, AV.str l6, AV.int .i64 n9], st200)))) (bindO (loadS 1 false (AV.mp (St.h (Prod.snd c1)) 5) st36 fun v202 _x => asB v202 fun b204 => ifB b204 (loadS 1 false (AV.mp (St.h (Prod.snd c1)) 0) st36 fun v205
 _x => asI .u8 v205 fun n207 => some ([AV.bool (n207 != 4)], st36)) (some ([AV.bool false], st36))) fun c208 => unc (Prod.fst c208) fun v209 l210 => asB v209 fun b211 => un0 l210 (ifB b211 (loadS 1 false (AV.mp (St.h
 (Prod.snd c1)) 0) (Prod.snd c208) fun v212 _x => asI .u8 v212 fun n214 => bindO (ifB (n214 == 2) (chk (Nat.ble ((List.length l6 + 1)) 9223372036854775807) (letV (l6 ++ [32]) fun l215 => letV (IntKind.wrap .i64 (n9 + 1))
 fun n216 => some ([AV.str l215, AV.int .i64 n216], Prod.snd c208))) (some ([AV.str l6, AV.int .i64 n9], Prod.snd c208))) fun c217 => unc (Prod.fst c217) fun v218 l219 => asS v218 fun l220 => unc l219 fun v221 l222 =>
 asI .i64 v221 fun n223 => un0 l222 (some (Sum.inr (Sum.inr (Sum.inr (Sum.inr (Sum.inl ([v38, AV.str l220, AV.int .i64 n223], Prod.snd c217)))))))) (chk (Nat.ble ((List.length l6 + 1)) 9223372036854775807) (letV (l6 ++
 [10]) fun l224 => bindO (loopO (g24_L1 c1) ([AV.str l224, AV.int .i64 0], Prod.snd c208)) fun c237 => unc (Prod.fst (Prod.snd c237)) fun v238 l239 => asS v238 fun l240 => un0 l239 (loadS 1 false (AV.mp (St.h (Prod.snd
 c1)) 4) (Prod.snd (Prod.snd c237)) fun v241 _x => asI .i64 v241 fun n243 => some (Sum.inl ([v38, AV.str l240, AV.int .i64 n243], Prod.snd (Prod.snd c237))))))))) fun c244 => onSum c244 fun c245 => unc (Prod.fst c245)
 fun v246 l247 => unc l247 fun v248 l249 => asS v248 fun l250 => unc l249 fun v251 l252 => asI .i64 v251 fun n253 => un0 l252 (some (Sum.inl ([v246, AV.str l250, AV.int .i64 n253], Prod.snd c245))))) fun c254 => onSum
 c254 fun c255 => unc (Prod.fst c255) fun v256 l257 => unc l257 fun v258 l259 => asS v258 fun l260 => unc l259 fun v261 l262 => asI .i64 v261 fun n263 => un0 l262 (some (Sum.inl ([v256, AV.str l260, AV.int .i64 n263],
 Prod.snd c255))))) fun c264 => onSum c264 fun c265 => unc (Prod.fst c265) fun v266 l267 => unc l267 fun v268 l269 => asS v268 fun l270 => unc l269 fun v271 l272 => asI .i64 v271 fun n273 => un0 l272 (some (Sum.inl
 ([v266, AV.str l270, AV.int .i64 n273], Prod.snd c265))))) fun c274 => onSum c274 fun c275 => unc (Prod.fst c275) fun v276 l277 => unc l277 fun v278 l279 => asS v278 fun l280 => unc l279 fun v281 l282 => asI .i64 v281
 fun n283 => un0 l282 (some (Sum.inl ([v276, AV.str l280, AV.int .i64 n283], Prod.snd c275)))))) fun c284 => onSum c284 fun c285 => unc (Prod.fst c285) fun v286 l287 => unc l287 fun v288 l289 => asS v288 fun l290 => unc
 l289 fun v291 l292 => asI .i64 v291 fun n293 => un0 l292 (some (Sum.inl ([v286, AV.str l290, AV.int .i64 n293], Prod.snd c285)))) (some (Sum.inr (0, [AV.str l6], Prod.snd c1))))
noncomputable def g24 : AV → AV → Option AV := fun x0 x1 => asI .i64 x1 fun n0 => bindO (loopO (g24_L2 n0) ([x0, AV.str [], AV.int .i64 0], St.mk 0 0 Tr.leaf)) fun c294 => unc (Prod.fst (Prod.snd c294)) fun v295 l296 =>
 asS v295 fun l297 => un0 l296 (some (AV.str l297))
theorem g24_eq (x0 x1 : AV) : bareS vE 24 [x0, x1] = g24 x0 x1 := by kernel_rfl
/-- rostrum/layout.hard -/
noncomputable def g25 : AV → Option AV := fun x0 => unA x0 fun l1 => unc l1 fun v2 l3 => asI .u8 v2 fun n4 => unc l3 fun v5 l6 => asS v5 fun _x => unc l6 fun v8 l9 => asI .i64 v8 fun _x => unc l9 fun v11 l12 => un0 l12
 (asOne v11 (fit1 v11 fun v13 => bindO (ifB (n4 == 4) (some ([AV.bool true], St.mk 0 0 Tr.leaf)) (callS (orc vE) 29 [v13, AV.fn (Fn.func 25) [] []] (St.mk 0 0 Tr.leaf) fun v14 st15 _x => asB v14 fun b17 => some ([AV.bool
 b17], st15))) fun c18 => unc (Prod.fst c18) fun v19 l20 => asB v19 fun b21 => un0 l20 (some (AV.bool b21))))
theorem g25_eq (x0 : AV) : bareS vE 25 [x0] = g25 x0 := by kernel_rfl
/-- rostrum/rostrumref19.hard -/
noncomputable def g26_L1 (v13 : AV) : Car → Option (Car ⊕ Nat × Car) := fun c14 => unc (Prod.fst c14) fun v15 l16 => asB v15 fun b17 => unc l16 fun v18 l19 => asI .i64 v18 fun n20 => un0 l19 (lenS v13 fun k21 => ifB
 (decide (n20 < (↑k21 : Int))) (idxA 4 v13 n20 (Prod.snd c14) fun v22 _x => loadS 4 true v22 (Prod.snd c14) fun v24 _x => unA v24 fun l27 => unc l27 fun v28 l29 => asI .u8 v28 fun n30 => unc l29 fun v31 l32 => asS v31
 fun l33 => unc l32 fun v34 l35 => asI .i64 v34 fun n36 => unc l35 fun v37 l38 => un0 l38 (callS (orc vE) 26 [AV.agg [AV.int .u8 n30, AV.str l33, AV.int .i64 n36, v37]] (Prod.snd c14) fun v39 st40 _x => asB v39 fun b42
 => ifB b42 (some (Sum.inr (1, [AV.bool true], st40))) (letV (IntKind.wrap .i64 (n20 + 1)) fun n43 => some (Sum.inl ([AV.bool b17, AV.int .i64 n43], st40))))) (some (Sum.inr (0, [AV.bool b17], Prod.snd c14))))
noncomputable def g26 : AV → Option AV := fun x0 => unA x0 fun l1 => unc l1 fun v2 l3 => asI .u8 v2 fun n4 => unc l3 fun v5 l6 => asS v5 fun _x => unc l6 fun v8 l9 => asI .i64 v8 fun _x => unc l9 fun v11 l12 => un0 l12
 (asOne v11 (fit1 v11 fun v13 => ifB (n4 == 4) (some (AV.bool true)) (bindO (loopO (g26_L1 v13) ([AV.bool false, AV.int .i64 0], St.mk 0 0 Tr.leaf)) fun c44 => unc (Prod.fst (Prod.snd c44)) fun v45 l46 => asB v45 fun b47
 => un0 l46 (sel2 (Prod.fst c44) (some (AV.bool false)) fun _x => some (AV.bool b47)))))
theorem g26_eq (x0 : AV) : bareS vE 26 [x0] = g26 x0 := by kernel_rfl
/-- slices.ContainsFunc[[]rostrum/layout.Doc,rostrum/layout.Doc] -/
noncomputable def g29 : AV → AV → Option AV := fun x0 x1 => callS (orc vE) 42 [x0, x1] (St.mk 0 0 Tr.leaf) fun v0 _x _x_1 => asI .i64 v0 fun n3 => some (AV.bool (decide (n3 ≥ 0)))
theorem g29_eq (x0 x1 : AV) : bareS vE 29 [x0, x1] = g29 x0 x1 := by kernel_rfl
/-- rostrum/layout.May$1 -/
noncomputable def g30 : AV → Option AV := fun x0 => unA x0 fun l1 => unc l1 fun v2 l3 => asI .u8 v2 fun n4 => unc l3 fun v5 l6 => asS v5 fun l7 => unc l6 fun v8 l9 => asI .i64 v8 fun n10 => unc l9 fun v11 l12 => un0 l12
 (asOne v11 (fit1 v11 fun v13 => callS (orc vE) 15 [AV.agg [AV.int .u8 n4, AV.str l7, AV.int .i64 n10, v13]] (St.mk 0 0 Tr.leaf) fun v15 _x _x_1 => asB v15 fun b18 => some (AV.bool !b18)))
theorem g30_eq (x0 : AV) : bareS vE 30 [x0] = g30 x0 := by kernel_rfl
/-- rostrum/rostrumref02.Valid -/
noncomputable def g31_L1 (l0 : List UInt8) : Car → Option (Car ⊕ Nat × Car) := fun c1 => unc (Prod.fst c1) fun v2 l3 => asB v2 fun b4 => unc l3 fun v5 l6 => asI .i64 v5 fun n7 => un0 l6 (ifB (decide (n7 < (↑(List.length
 l0) : Int))) (callS (orc vE) 43 [AV.str l0, AV.int .i64 n7] (Prod.snd c1) fun v8 st9 _x => asI .i64 v8 fun n11 => ifB (n11 == 0) (some (Sum.inr (1, [AV.bool false], st9))) (letV (IntKind.wrap .i64 (n7 + n11)) fun n12 =>
 some (Sum.inl ([AV.bool b4, AV.int .i64 n12], st9)))) (some (Sum.inr (0, [AV.bool b4], Prod.snd c1))))
noncomputable def g31 : AV → Option AV := fun x0 => asS x0 fun l0 => bindO (loopO (g31_L1 l0) ([AV.bool false, AV.int .i64 0], St.mk 0 0 Tr.leaf)) fun c13 => unc (Prod.fst (Prod.snd c13)) fun v14 l15 => asB v14 fun b16
 => un0 l15 (sel2 (Prod.fst c13) (some (AV.bool true)) fun _x => some (AV.bool b16))
theorem g31_eq (x0 : AV) : bareS vE 31 [x0] = g31 x0 := by kernel_rfl
/-- (*rostrum/layout.writer).text -/
noncomputable def w32 : AV → AV → St → Option (AV × St) := fun x0 x1 st => asS x1 fun l0 => chk (notNil x0) (fldA 0 x0 fun v1 => callS (orc vE) 44 [v1, AV.str l0] st fun _x st3 _x_1 => chk (notNil x0) (fldA 2 x0 fun v5
 => loadS 1 false v5 st3 fun v6 l7 => asI .i64 v6 fun n8 => planS (orc vE) (primP (Prim.lib libRunes) [AV.str l0]) st3 fun v9 st10 x11 => asI .i64 v9 fun n12 => chk (apart (Fx.mk l7 Did.kept) x11 && (apart (Fx.mk []
 Did.kept) x11 && (apart (Fx.mk [] Did.kept) x11 && (apart (Fx.mk [] Did.kept) x11 && true)))) (letV (IntKind.wrap .i64 (n8 + n12)) fun n13 => chk (notNil x0) (fldA 2 x0 fun v14 => storeS (orc vE) 1 v14 (AV.int .i64 n13)
 [AV.int .i64 n13] st10 fun _x st16 _x_2 => some (AV.tup [], st16)))))
theorem w32_eq (x0 x1 : AV) (st : St) : wideS vE 32 [x0, x1] st = w32 x0 x1 st := by kernel_rfl
/-- (*rostrum/layout.writer).end -/
noncomputable def w33 : AV → AV → St → Option (AV × St) := fun x0 x1 st => asI .i64 x1 fun n0 => chk (notNil x0) (fldA 0 x0 fun v1 => planS (orc vE) (primP (Prim.lib libRepeat) [AV.str [32], AV.int .i64 n0]) st fun v2
 st3 x4 => asS v2 fun l5 => chk (apart (Fx.mk [] Did.kept) x4 && (apart (Fx.mk [] Did.kept) x4 && (apart (Fx.mk [] Did.kept) x4 && true))) (chk (Nat.ble (1 + List.length l5) 9223372036854775807) (letV (10 :: l5) fun l6
 => callS (orc vE) 44 [v1, AV.str l6] st3 fun _x st8 _x_1 => chk (notNil x0) (fldA 2 x0 fun v10 => storeS (orc vE) 1 v10 (AV.int .i64 n0) [AV.int .i64 n0] st8 fun _x st12 _x_2 => some (AV.tup [], st12)))))
theorem w33_eq (x0 x1 : AV) (st : St) : wideS vE 33 [x0, x1] st = w33 x0 x1 st := by kernel_rfl
/-- (rostrum/layout.stack).pop -/
noncomputable def g34 : AV → Option AV := fun x0 => lenS x0 fun k0 => letV (IntKind.wrap .i64 ((↑k0 : Int) - 1)) fun n1 => idxA 6 x0 n1 (St.mk 1 0 (Tr.node (some (VM.Obj.cells 59 [AV.int .u8 0, AV.str [], AV.int .i64 0,
 AV.nils, AV.int .i64 0, AV.bool false])) Tr.leaf Tr.leaf)) fun v2 _x => loadS 6 true v2 (St.mk 1 0 (Tr.node (some (VM.Obj.cells 59 [AV.int .u8 0, AV.str [], AV.int .i64 0, AV.nils, AV.int .i64 0, AV.bool false]))
 Tr.leaf Tr.leaf)) fun v4 _x => unA v4 fun l7 => unc l7 fun v8 l9 => asI .u8 v8 fun n10 => unc l9 fun v11 l12 => asS v11 fun l13 => unc l12 fun v14 l15 => asI .i64 v14 fun n16 => unc l15 fun v17 l18 => unc l18 fun v19
 l20 => asI .i64 v19 fun n21 => unc l20 fun v22 l23 => asB v22 fun b24 => un0 l23 (lenS x0 fun k25 => letV (IntKind.wrap .i64 ((↑k25 : Int) - 1)) fun n26 => sliceS 6 x0 none (some n26) none fun v27 => asOne v17 (frzS
 (St.mk 1 0 (Tr.node (some (VM.Obj.cells 59 [AV.int .u8 n10, AV.str l13, AV.int .i64 n16, v17, AV.int .i64 n21, AV.bool b24])) Tr.leaf Tr.leaf)) 0 (AV.tup [AV.agg [AV.int .u8 n10, AV.str l13, AV.int .i64 n16, v17, AV.int
 .i64 n21, AV.bool b24], v27]) fun v29 => some v29))
theorem g34_eq (x0 : AV) : bareS vE 34 [x0] = g34 x0 := by kernel_rfl
/-- (rostrum/layout.stack).push -/
noncomputable def g35_L1 (n19 : Int) (b20 : Bool) (v21 : AV) : Car → Option (Car ⊕ Nat × Car) := fun c27 => unc (Prod.fst c27) fun v28 l29 => unc l29 fun v30 l31 => asI .i64 v30 fun n32 => un0 l31 (ifB (decide (n32 ≥
 0)) (idxA 4 v21 n32 (Prod.snd c27) fun v33 _x => loadS 4 true v33 (Prod.snd c27) fun v35 _x => unA v35 fun l38 => unc l38 fun v39 l40 => asI .u8 v39 fun n41 => unc l40 fun v42 l43 => asS v42 fun l44 => unc l43 fun v45
 l46 => asI .i64 v45 fun n47 => unc l46 fun v48 l49 => un0 l49 (asOne v48 (asOne v48 (fit1 v48 fun v51 => asOne v51 (fit1 v51 fun v52 => appS 6 72 59 v28 [AV.agg [AV.int .u8 n41, AV.str l44, AV.int .i64 n47, v52, AV.int
 .i64 n19, AV.bool b20]] (Prod.snd c27) fun v53 st54 _x => letV (IntKind.wrap .i64 (n32 - 1)) fun n56 => some (Sum.inl ([v53, AV.int .i64 n56], st54))))))) (some (Sum.inr (0, [v28], Prod.snd c27))))
noncomputable def g35 : AV → AV → AV → AV → Option AV := fun x0 x1 x2 x3 => unA x1 fun l1 => unc l1 fun v2 l3 => asI .u8 v2 fun _x => unc l3 fun v5 l6 => asS v5 fun _x => unc l6 fun v8 l9 => asI .i64 v8 fun _x => unc l9
 fun v11 l12 => unc l12 fun v13 l14 => asI .i64 v13 fun _x => unc l14 fun v16 l17 => asB v16 fun _x => un0 l17 (asI .i64 x2 fun n19 => asB x3 fun b20 => asOne v11 (fit1 v11 fun v21 => lenS x0 fun k22 => lenS x0 fun k23
 => sliceS 6 x0 none (some (↑k22 : Int)) (some (↑k23 : Int)) fun v24 => lenS v21 fun k25 => letV (IntKind.wrap .i64 ((↑k25 : Int) - 1)) fun n26 => bindO (loopO (g35_L1 n19 b20 v21) ([v24, AV.int .i64 n26], St.mk 0 0
 Tr.leaf)) fun c57 => unc (Prod.fst (Prod.snd c57)) fun v58 l59 => un0 l59 (frzS (Prod.snd (Prod.snd c57)) 0 (oneOf [v58]) fun v60 => some v60)))
theorem g35_eq (x0 x1 x2 x3 : AV) : bareS vE 35 [x0, x1, x2, x3] = g35 x0 x1 x2 x3 := by kernel_rfl
/-- (*rostrum/layout.writer).fits -/
noncomputable def w36_L1 (x0 : AV) : Car → Option (Car ⊕ Nat × Car) := fun c4 => unc (Prod.fst c4) fun v5 l6 => asB v5 fun b7 => unc l6 fun v8 l9 => asI .i64 v8 fun n10 => unc l9 fun v11 l12 => un0 l12 (bindO (lenS v11
 fun k13 => ifB (decide ((↑k13 : Int) > 0)) (chk (notNil x0) (fldA 3 x0 fun v14 => loadS 1 false v14 (Prod.snd c4) fun v15 _x => asI .i64 v15 fun n17 => some ([AV.bool (decide (n10 ≤ n17))], Prod.snd c4))) (some
 ([AV.bool false], Prod.snd c4))) fun c18 => unc (Prod.fst c18) fun v19 l20 => asB v19 fun b21 => un0 l20 (ifB b21 (letSt (St.add (Prod.snd c18) (VM.Obj.cells 59 [AV.int .u8 0, AV.str [], AV.int .i64 0, AV.nils, AV.int
 .i64 0, AV.bool false])) fun st22 => callS (orc vE) 34 [v11] st22 fun v23 st24 _x => unT v23 fun l26 => nthS l26 0 fun v27 => unA v27 fun l29 => unc l29 fun v30 l31 => asI .u8 v30 fun n32 => unc l31 fun v33 l34 => asS
 v33 fun l35 => unc l34 fun v36 l37 => asI .i64 v36 fun n38 => unc l37 fun v39 l40 => unc l40 fun v41 l42 => asI .i64 v41 fun n43 => unc l42 fun v44 l45 => asB v44 fun b46 => un0 l45 (unT v23 fun l47 => nthS l47 1 fun
 v48 => asOne v39 (storeS (orc vE) 6 (AV.mp (St.h (Prod.snd c18)) 0) (AV.agg [AV.int .u8 n32, AV.str l35, AV.int .i64 n38, v39, AV.int .i64 n43, AV.bool b46]) [AV.int .u8 n32, AV.str l35, AV.int .i64 n38, v39, AV.int
 .i64 n43, AV.bool b46] st24 fun _x st50 _x_1 => loadS 1 false (AV.mp (St.h (Prod.snd c18)) 0) st50 fun v52 _x => asI .u8 v52 fun n54 => bindO (ifB (n54 == 1) (loadS 1 false (AV.mp (St.h (Prod.snd c18)) 1) st50 fun v55
 _x => asS v55 fun l57 => planS (orc vE) (primP (Prim.lib libRunes) [AV.str l57]) st50 fun v58 st59 _x => asI .i64 v58 fun n61 => letV (IntKind.wrap .i64 (n10 + n61)) fun n62 => some (Sum.inl ([AV.bool b7, AV.int .i64
 n62, v48], st59))) (bindO (ifB (n54 == 2) (some ([AV.bool (n54 == 2)], st50)) (bindO (ifB (n54 == 3) (some ([AV.bool (n54 == 3)], st50)) (some ([AV.bool (n54 == 4)], st50))) fun c63 => unc (Prod.fst c63) fun v64 l65 =>
 asB v64 fun b66 => un0 l65 (some ([AV.bool b66], Prod.snd c63)))) fun c67 => unc (Prod.fst c67) fun v68 l69 => asB v68 fun b70 => un0 l69 (bindO (ifB b70 (bindO (loadS 1 false (AV.mp (St.h (Prod.snd c18)) 5) (Prod.snd
 c67) fun v71 _x => asB v71 fun b73 => ifB (!b73) (some ([AV.bool true], Prod.snd c67)) (loadS 1 false (AV.mp (St.h (Prod.snd c18)) 0) (Prod.snd c67) fun v74 _x => asI .u8 v74 fun n76 => some ([AV.bool (n76 == 4)],
 Prod.snd c67))) fun c77 => unc (Prod.fst c77) fun v78 l79 => asB v78 fun b80 => un0 l79 (ifB b80 (some (Sum.inr (Sum.inr (Sum.inr (1, [AV.bool true, AV.int .i64 n10], Prod.snd c77))))) (loadS 1 false (AV.mp (St.h
 (Prod.snd c18)) 0) (Prod.snd c77) fun v81 _x => asI .u8 v81 fun n83 => bindO (ifB (n83 == 2) (letV (IntKind.wrap .i64 (n10 + 1)) fun n84 => some ([AV.int .i64 n84], Prod.snd c77)) (some ([AV.int .i64 n10], Prod.snd
 c77))) fun c85 => unc (Prod.fst c85) fun v86 l87 => asI .i64 v86 fun n88 => un0 l87 (some (Sum.inl ([AV.bool b7, AV.int .i64 n88, v48], Prod.snd c85)))))) (bindO (loadS 6 true (AV.mp (St.h (Prod.snd c18)) 0) (Prod.snd
 c67) fun v89 _x => unA v89 fun l92 => unc l92 fun v93 l94 => asI .u8 v93 fun n95 => unc l94 fun v96 l97 => asS v96 fun l98 => unc l97 fun v99 l100 => asI .i64 v99 fun n101 => unc l100 fun v102 l103 => unc l103 fun v104
 l105 => asI .i64 v104 fun n106 => unc l105 fun v107 l108 => asB v107 fun b109 => un0 l108 (loadS 1 false (AV.mp (St.h (Prod.snd c18)) 4) (Prod.snd c67) fun v110 _x => asI .i64 v110 fun n112 => loadS 1 false (AV.mp (St.h
 (Prod.snd c18)) 5) (Prod.snd c67) fun v113 _x => asB v113 fun b115 => ifB b115 (callS (orc vE) 35 [v48, AV.agg [AV.int .u8 n95, AV.str l98, AV.int .i64 n101, v102, AV.int .i64 n106, AV.bool b109], AV.int .i64 n112,
 AV.bool true] (Prod.snd c67) fun v116 st117 _x => some ([v116], st117)) (loadS 1 false (AV.mp (St.h (Prod.snd c18)) 0) (Prod.snd c67) fun v119 _x => asI .u8 v119 fun n121 => callS (orc vE) 35 [v48, AV.agg [AV.int .u8
 n95, AV.str l98, AV.int .i64 n101, v102, AV.int .i64 n106, AV.bool b109], AV.int .i64 n112, AV.bool (n121 == 6)] (Prod.snd c67) fun v122 st123 _x => some ([v122], st123)))) fun c125 => unc (Prod.fst c125) fun v126 l127
 => un0 l127 (some (Sum.inl ([AV.bool b7, AV.int .i64 n10, v126], Prod.snd c125))))) fun c128 => onSum c128 fun c129 => unc (Prod.fst c129) fun v130 l131 => asB v130 fun b132 => unc l131 fun v133 l134 => asI .i64 v133
 fun n135 => unc l134 fun v136 l137 => un0 l137 (some (Sum.inl ([AV.bool b132, AV.int .i64 n135, v136], Prod.snd c129)))))) fun c138 => onSum c138 fun c139 => unc (Prod.fst c139) fun v140 l141 => asB v140 fun b142 => unc
 l141 fun v143 l144 => asI .i64 v143 fun n145 => unc l144 fun v146 l147 => un0 l147 (some (Sum.inl ([AV.bool b142, AV.int .i64 n145, v146], Prod.snd c139)))))) (some (Sum.inr (0, [AV.bool b7, AV.int .i64 n10], Prod.snd
 c18)))))
noncomputable def w36 : AV → AV → St → Option (AV × St) := fun x0 x1 st => chk (notNil x0) (fldA 2 x0 fun v0 => loadS 1 false v0 st fun v1 _x => asI .i64 v1 fun n3 => bindO (loopO (w36_L1 x0) ([AV.bool false, AV.int
 .i64 n3, x1], st)) fun c148 => unc (Prod.fst (Prod.snd c148)) fun v149 l150 => asB v149 fun b151 => unc l150 fun v152 l153 => asI .i64 v152 fun n154 => un0 l153 (sel2 (Prod.fst c148) (chk (notNil x0) (fldA 3 x0 fun v155
 => loadS 1 false v155 (Prod.snd (Prod.snd c148)) fun v156 _x => asI .i64 v156 fun n158 => some (AV.bool (decide (n154 ≤ n158)), Prod.snd (Prod.snd c148)))) fun _x => some (AV.bool b151, Prod.snd (Prod.snd c148))))
theorem w36_eq (x0 x1 : AV) (st : St) : wideS vE 36 [x0, x1] st = w36 x0 x1 st := by kernel_rfl
/-- rostrum/rostrumref19.kids -/
noncomputable def g38_L1 (n19 : Int) (b20 : Bool) (v21 : AV) : Car → Option (Car ⊕ Nat × Car) := fun c22 => unc (Prod.fst c22) fun v23 l24 => unc l24 fun v25 l26 => asI .i64 v25 fun n27 => un0 l26 (lenS v21 fun k28 =>
 ifB (decide (n27 < (↑k28 : Int))) (idxA 4 v21 n27 (Prod.snd c22) fun v29 _x => loadS 4 true v29 (Prod.snd c22) fun v31 _x => unA v31 fun l34 => unc l34 fun v35 l36 => asI .u8 v35 fun n37 => unc l36 fun v38 l39 => asS
 v38 fun l40 => unc l39 fun v41 l42 => asI .i64 v41 fun n43 => unc l42 fun v44 l45 => un0 l45 (asOne v44 (asOne v44 (fit1 v44 fun v47 => asOne v47 (fit1 v47 fun v48 => appS 6 72 64 v23 [AV.agg [AV.int .u8 n37, AV.str
 l40, AV.int .i64 n43, v48, AV.int .i64 n19, AV.bool b20]] (Prod.snd c22) fun v49 st50 _x => letV (IntKind.wrap .i64 (n27 + 1)) fun n52 => some (Sum.inl ([v49, AV.int .i64 n52], st50))))))) (some (Sum.inr (0, [v23],
 Prod.snd c22))))
noncomputable def g38 : AV → AV → AV → AV → Option AV := fun x0 x1 x2 x3 => unA x0 fun l1 => unc l1 fun v2 l3 => asI .u8 v2 fun _x => unc l3 fun v5 l6 => asS v5 fun _x => unc l6 fun v8 l9 => asI .i64 v8 fun _x => unc l9
 fun v11 l12 => unc l12 fun v13 l14 => asI .i64 v13 fun _x => unc l14 fun v16 l17 => asB v16 fun _x => un0 l17 (asI .i64 x1 fun n19 => asB x2 fun b20 => asOne v11 (fit1 v11 fun v21 => bindO (loopO (g38_L1 n19 b20 v21)
 ([AV.nils, AV.int .i64 0], St.mk 0 0 Tr.leaf)) fun c53 => unc (Prod.fst (Prod.snd c53)) fun v54 l55 => un0 l55 (elemsS x3 fun l56 => fitTs true l56 fun l57 => chk (sizesOk 6 l57) (appS 6 72 64 v54 l57 (Prod.snd
 (Prod.snd c53)) fun v58 st59 _x => frzS st59 0 (oneOf [v58]) fun v61 => some v61))))
theorem g38_eq (x0 x1 x2 x3 : AV) : bareS vE 38 [x0, x1, x2, x3] = g38 x0 x1 x2 x3 := by kernel_rfl
/-- rostrum/rostrumref19.fit -/
noncomputable def g39_L1 (n1 : Int) : Car → Option (Car ⊕ Nat × Car) := fun c2 => unc (Prod.fst c2) fun v3 l4 => asI .i64 v3 fun n5 => unc l4 fun v6 l7 => asB v6 fun b8 => unc l7 fun v9 l10 => un0 l10 (lenS v9 fun k11
 => ifB (decide ((↑k11 : Int) > 0)) (ifB (decide (n5 > n1)) (some (Sum.inr (1, [AV.int .i64 n5, AV.bool false], Prod.snd c2))) (idxA 6 v9 0 (Prod.snd c2) fun v12 _x => loadS 6 true v12 (Prod.snd c2) fun v14 _x => unA v14
 fun l17 => unc l17 fun v18 l19 => asI .u8 v18 fun n20 => unc l19 fun v21 l22 => asS v21 fun l23 => unc l22 fun v24 l25 => asI .i64 v24 fun n26 => unc l25 fun v27 l28 => unc l28 fun v29 l30 => asI .i64 v29 fun n31 => unc
 l30 fun v32 l33 => asB v32 fun b34 => un0 l33 (letSt (St.add (Prod.snd c2) (VM.Obj.cells 64 [AV.int .u8 0, AV.str [], AV.int .i64 0, AV.nils, AV.int .i64 0, AV.bool false])) fun st35 => asOne v27 (storeS (orc vE) 6
 (AV.mp (St.h (Prod.snd c2)) 0) (AV.agg [AV.int .u8 n20, AV.str l23, AV.int .i64 n26, v27, AV.int .i64 n31, AV.bool b34]) [AV.int .u8 n20, AV.str l23, AV.int .i64 n26, v27, AV.int .i64 n31, AV.bool b34] st35 fun _x st37
 _x_1 => sliceS 6 v9 (some 1) none none fun v39 => loadS 1 false (AV.mp (St.h (Prod.snd c2)) 0) st37 fun v40 _x => asI .u8 v40 fun n42 => bindO (ifB (n42 == 1) (loadS 1 false (AV.mp (St.h (Prod.snd c2)) 1) st37 fun v43
 _x => asS v43 fun l45 => callS (orc vE) 22 [AV.str l45] st37 fun v46 st47 _x => asI .i64 v46 fun n49 => letV (IntKind.wrap .i64 (n5 + n49)) fun n50 => some (Sum.inl ([AV.int .i64 n50, AV.bool b8, v39], st47))) (bindO
 (ifB (n42 == 2) (some ([AV.bool (n42 == 2)], st37)) (some ([AV.bool (n42 == 3)], st37))) fun c51 => unc (Prod.fst c51) fun v52 l53 => asB v52 fun b54 => un0 l53 (bindO (ifB b54 (loadS 1 false (AV.mp (St.h (Prod.snd c2))
 5) (Prod.snd c51) fun v55 _x => asB v55 fun b57 => ifB (!b57) (some (Sum.inr (Sum.inr (Sum.inr (1, [AV.int .i64 n5, AV.bool true], Prod.snd c51))))) (loadS 1 false (AV.mp (St.h (Prod.snd c2)) 0) (Prod.snd c51) fun v58
 _x => asI .u8 v58 fun n60 => bindO (ifB (n60 == 2) (letV (IntKind.wrap .i64 (n5 + 1)) fun n61 => some ([AV.int .i64 n61], Prod.snd c51)) (some ([AV.int .i64 n5], Prod.snd c51))) fun c62 => unc (Prod.fst c62) fun v63 l64
 => asI .i64 v63 fun n65 => un0 l64 (some (Sum.inl ([AV.int .i64 n65, AV.bool b8, v39], Prod.snd c62))))) (ifB (n42 == 4) (some (Sum.inr (Sum.inr (Sum.inr (1, [AV.int .i64 n5, AV.bool true], Prod.snd c51))))) (bindO (ifB
 (n42 == 6) (loadS 6 true (AV.mp (St.h (Prod.snd c2)) 0) (Prod.snd c51) fun v66 _x => unA v66 fun l69 => unc l69 fun v70 l71 => asI .u8 v70 fun n72 => unc l71 fun v73 l74 => asS v73 fun l75 => unc l74 fun v76 l77 => asI
 .i64 v76 fun n78 => unc l77 fun v79 l80 => unc l80 fun v81 l82 => asI .i64 v81 fun n83 => unc l82 fun v84 l85 => asB v84 fun b86 => un0 l85 (loadS 1 false (AV.mp (St.h (Prod.snd c2)) 4) (Prod.snd c51) fun v87 _x => asI
 .i64 v87 fun n89 => callS (orc vE) 38 [AV.agg [AV.int .u8 n72, AV.str l75, AV.int .i64 n78, v79, AV.int .i64 n83, AV.bool b86], AV.int .i64 n89, AV.bool true, v39] (Prod.snd c51) fun v90 st91 _x => some ([v90], st91)))
 (loadS 6 true (AV.mp (St.h (Prod.snd c2)) 0) (Prod.snd c51) fun v93 _x => unA v93 fun l96 => unc l96 fun v97 l98 => asI .u8 v97 fun n99 => unc l98 fun v100 l101 => asS v100 fun l102 => unc l101 fun v103 l104 => asI .i64
 v103 fun n105 => unc l104 fun v106 l107 => unc l107 fun v108 l109 => asI .i64 v108 fun n110 => unc l109 fun v111 l112 => asB v111 fun b113 => un0 l112 (loadS 1 false (AV.mp (St.h (Prod.snd c2)) 4) (Prod.snd c51) fun
 v114 _x => asI .i64 v114 fun n116 => loadS 1 false (AV.mp (St.h (Prod.snd c2)) 5) (Prod.snd c51) fun v117 _x => asB v117 fun b119 => callS (orc vE) 38 [AV.agg [AV.int .u8 n99, AV.str l102, AV.int .i64 n105, v106, AV.int
 .i64 n110, AV.bool b113], AV.int .i64 n116, AV.bool b119, v39] (Prod.snd c51) fun v120 st121 _x => some ([v120], st121)))) fun c123 => unc (Prod.fst c123) fun v124 l125 => un0 l125 (some (Sum.inl ([AV.int .i64 n5,
 AV.bool b8, v124], Prod.snd c123)))))) fun c126 => onSum c126 fun c127 => unc (Prod.fst c127) fun v128 l129 => asI .i64 v128 fun n130 => unc l129 fun v131 l132 => asB v131 fun b133 => unc l132 fun v134 l135 => un0 l135
 (some (Sum.inl ([AV.int .i64 n130, AV.bool b133, v134], Prod.snd c127)))))) fun c136 => onSum c136 fun c137 => unc (Prod.fst c137) fun v138 l139 => asI .i64 v138 fun n140 => unc l139 fun v141 l142 => asB v141 fun b143
 => unc l142 fun v144 l145 => un0 l145 (some (Sum.inl ([AV.int .i64 n140, AV.bool b143, v144], Prod.snd c137))))))) (some (Sum.inr (0, [AV.int .i64 n5, AV.bool b8], Prod.snd c2))))
noncomputable def g39 : AV → AV → AV → Option AV := fun x0 x1 x2 => asI .i64 x1 fun n0 => asI .i64 x2 fun n1 => bindO (loopO (g39_L1 n1) ([AV.int .i64 n0, AV.bool false, x0], St.mk 0 0 Tr.leaf)) fun c146 => unc
 (Prod.fst (Prod.snd c146)) fun v147 l148 => asI .i64 v147 fun n149 => unc l148 fun v150 l151 => asB v150 fun b152 => un0 l151 (sel2 (Prod.fst c146) (some (AV.bool (decide (n149 ≤ n1)))) fun _x => some (AV.bool b152))
theorem g39_eq (x0 x1 x2 : AV) : bareS vE 39 [x0, x1, x2] = g39 x0 x1 x2 := by kernel_rfl
/-- slices.IndexFunc[[]rostrum/layout.Doc,rostrum/layout.Doc] -/
noncomputable def g42_L1 (x0 : AV) (x1 : AV) (k0 : Nat) : Car → Option (Car ⊕ Nat × Car) := fun c1 => unc (Prod.fst c1) fun v2 l3 => asI .i64 v2 fun n4 => unc l3 fun v5 l6 => asI .i64 v5 fun n7 => un0 l6 (ifB (decide
 (n7 < (↑k0 : Int))) (idxA 4 x0 n7 (Prod.snd c1) fun v8 _x => loadS 4 true v8 (Prod.snd c1) fun v10 _x => unA v10 fun l13 => unc l13 fun v14 l15 => asI .u8 v14 fun n16 => unc l15 fun v17 l18 => asS v17 fun l19 => unc l18
 fun v20 l21 => asI .i64 v20 fun n22 => unc l21 fun v23 l24 => un0 l24 (callF (orc vE) (Sx.prim (sx vE 42)) x1 [AV.agg [AV.int .u8 n16, AV.str l19, AV.int .i64 n22, v23]] (Prod.snd c1) fun v25 st26 _x => asB v25 fun b28
 => ifB b28 (some (Sum.inr (1, [AV.int .i64 n7], st26))) (letV (IntKind.wrap .i64 (n7 + 1)) fun n29 => some (Sum.inl ([AV.int .i64 n4, AV.int .i64 n29], st26))))) (some (Sum.inr (0, [AV.int .i64 n4], Prod.snd c1))))
noncomputable def g42 : AV → AV → Option AV := fun x0 x1 => lenS x0 fun k0 => bindO (loopO (g42_L1 x0 x1 k0) ([AV.int .i64 0, AV.int .i64 0], St.mk 0 0 Tr.leaf)) fun c30 => unc (Prod.fst (Prod.snd c30)) fun v31 l32 =>
 asI .i64 v31 fun n33 => un0 l32 (sel2 (Prod.fst c30) (some (AV.int .i64 (-1))) fun _x => some (AV.int .i64 n33))
theorem g42_eq (x0 x1 : AV) : bareS vE 42 [x0, x1] = g42 x0 x1 := by kernel_rfl
/-- rostrum/rostrumref02.Size -/
noncomputable def g43_L1 (l0 : List UInt8) (n1 : Int) (n26 : Int) : Car → Option (Car ⊕ Nat × Car) := fun c32 => unc (Prod.fst c32) fun v33 l34 => asI .i64 v33 fun n35 => unc l34 fun v36 l37 => asI .i64 v36 fun n38 =>
 un0 l37 (ifB (decide (n38 < n26)) (bindO (letV (IntKind.wrap .i64 (n1 + n38)) fun n39 => idxStr l0 n39 fun c40 => ifB (decide ((↑(UInt8.toNat c40) : Int) < 128)) (some ([AV.bool true], Prod.snd c32)) (letV (IntKind.wrap
 .i64 (n1 + n38)) fun n41 => idxStr l0 n41 fun c42 => some ([AV.bool (decide ((↑(UInt8.toNat c42) : Int) > 191))], Prod.snd c32))) fun c43 => unc (Prod.fst c43) fun v44 l45 => asB v44 fun b46 => un0 l45 (ifB b46 (some
 (Sum.inr (1, [AV.int .i64 0], Prod.snd c43))) (letV (IntKind.wrap .i64 (n38 + 1)) fun n47 => some (Sum.inl ([AV.int .i64 n35, AV.int .i64 n47], Prod.snd c43))))) (some (Sum.inr (0, [AV.int .i64 n35], Prod.snd c32))))
noncomputable def g43 : AV → AV → Option AV := fun x0 x1 => asS x0 fun l0 => asI .i64 x1 fun n1 => idxStr l0 n1 fun c2 => ifB (decide ((↑(UInt8.toNat c2) : Int) < 128)) (some (AV.int .i64 1)) (bindO (ifB (decide
 ((↑(UInt8.toNat c2) : Int) ≥ 194)) (some ([AV.bool (decide ((↑(UInt8.toNat c2) : Int) ≤ 223))], St.mk 0 0 Tr.leaf)) (some ([AV.bool false], St.mk 0 0 Tr.leaf))) fun c3 => unc (Prod.fst c3) fun v4 l5 => asB v4 fun b6 =>
 un0 l5 (bindO (ifB b6 (some ([AV.int .i64 2], Prod.snd c3)) (bindO (ifB (decide ((↑(UInt8.toNat c2) : Int) ≥ 224)) (some ([AV.bool (decide ((↑(UInt8.toNat c2) : Int) ≤ 239))], Prod.snd c3)) (some ([AV.bool false],
 Prod.snd c3))) fun c7 => unc (Prod.fst c7) fun v8 l9 => asB v8 fun b10 => un0 l9 (bindO (ifB b10 (some ([AV.int .i64 3], Prod.snd c7)) (bindO (ifB (decide ((↑(UInt8.toNat c2) : Int) ≥ 240)) (some ([AV.bool (decide
 ((↑(UInt8.toNat c2) : Int) ≤ 244))], Prod.snd c7)) (some ([AV.bool false], Prod.snd c7))) fun c11 => unc (Prod.fst c11) fun v12 l13 => asB v12 fun b14 => un0 l13 (bindO (ifB b14 (some ([AV.int .i64 4], Prod.snd c11))
 (some ([AV.int .i64 0], Prod.snd c11))) fun c15 => unc (Prod.fst c15) fun v16 l17 => asI .i64 v16 fun n18 => un0 l17 (some ([AV.int .i64 n18], Prod.snd c15))))) fun c19 => unc (Prod.fst c19) fun v20 l21 => asI .i64 v20
 fun n22 => un0 l21 (some ([AV.int .i64 n22], Prod.snd c19))))) fun c23 => unc (Prod.fst c23) fun v24 l25 => asI .i64 v24 fun n26 => un0 l25 (bindO (ifB (n26 == 0) (some ([AV.bool true], Prod.snd c23)) (letV
 (IntKind.wrap .i64 (n1 + n26)) fun n27 => some ([AV.bool (decide (n27 > (↑(List.length l0) : Int)))], Prod.snd c23))) fun c28 => unc (Prod.fst c28) fun v29 l30 => asB v29 fun b31 => un0 l30 (ifB b31 (some (AV.int .i64
 0)) (bindO (loopO (g43_L1 l0 n1 n26) ([AV.int .i64 0, AV.int .i64 1], Prod.snd c28)) fun c48 => unc (Prod.fst (Prod.snd c48)) fun v49 l50 => asI .i64 v49 fun n51 => un0 l50 (sel2 (Prod.fst c48) (letV (IntKind.wrap .i64
 (n1 + 1)) fun n52 => idxStr l0 n52 fun c53 => bindO (ifB ((↑(UInt8.toNat c2) : Int) == 224) (ifB (decide ((↑(UInt8.toNat c53) : Int) < 160)) (some ([AV.bool true], Prod.snd (Prod.snd c48))) (ifB ((↑(UInt8.toNat c2) :
 Int) == 237) (ifB (decide ((↑(UInt8.toNat c53) : Int) > 159)) (some ([AV.bool true], Prod.snd (Prod.snd c48))) (ifB ((↑(UInt8.toNat c2) : Int) == 240) (ifB (decide ((↑(UInt8.toNat c53) : Int) < 144)) (some ([AV.bool
 true], Prod.snd (Prod.snd c48))) (ifB ((↑(UInt8.toNat c2) : Int) == 244) (some ([AV.bool (decide ((↑(UInt8.toNat c53) : Int) > 143))], Prod.snd (Prod.snd c48))) (some ([AV.bool false], Prod.snd (Prod.snd c48))))) (ifB
 ((↑(UInt8.toNat c2) : Int) == 244) (some ([AV.bool (decide ((↑(UInt8.toNat c53) : Int) > 143))], Prod.snd (Prod.snd c48))) (some ([AV.bool false], Prod.snd (Prod.snd c48)))))) (ifB ((↑(UInt8.toNat c2) : Int) == 240)
 (ifB (decide ((↑(UInt8.toNat c53) : Int) < 144)) (some ([AV.bool true], Prod.snd (Prod.snd c48))) (ifB ((↑(UInt8.toNat c2) : Int) == 244) (some ([AV.bool (decide ((↑(UInt8.toNat c53) : Int) > 143))], Prod.snd (Prod.snd
 c48))) (some ([AV.bool false], Prod.snd (Prod.snd c48))))) (ifB ((↑(UInt8.toNat c2) : Int) == 244) (some ([AV.bool (decide ((↑(UInt8.toNat c53) : Int) > 143))], Prod.snd (Prod.snd c48))) (some ([AV.bool false], Prod.snd
 (Prod.snd c48))))))) (ifB ((↑(UInt8.toNat c2) : Int) == 237) (ifB (decide ((↑(UInt8.toNat c53) : Int) > 159)) (some ([AV.bool true], Prod.snd (Prod.snd c48))) (ifB ((↑(UInt8.toNat c2) : Int) == 240) (ifB (decide
 ((↑(UInt8.toNat c53) : Int) < 144)) (some ([AV.bool true], Prod.snd (Prod.snd c48))) (ifB ((↑(UInt8.toNat c2) : Int) == 244) (some ([AV.bool (decide ((↑(UInt8.toNat c53) : Int) > 143))], Prod.snd (Prod.snd c48))) (some
 ([AV.bool false], Prod.snd (Prod.snd c48))))) (ifB ((↑(UInt8.toNat c2) : Int) == 244) (some ([AV.bool (decide ((↑(UInt8.toNat c53) : Int) > 143))], Prod.snd (Prod.snd c48))) (some ([AV.bool false], Prod.snd (Prod.snd
 c48)))))) (ifB ((↑(UInt8.toNat c2) : Int) == 240) (ifB (decide ((↑(UInt8.toNat c53) : Int) < 144)) (some ([AV.bool true], Prod.snd (Prod.snd c48))) (ifB ((↑(UInt8.toNat c2) : Int) == 244) (some ([AV.bool (decide
 ((↑(UInt8.toNat c53) : Int) > 143))], Prod.snd (Prod.snd c48))) (some ([AV.bool false], Prod.snd (Prod.snd c48))))) (ifB ((↑(UInt8.toNat c2) : Int) == 244) (some ([AV.bool (decide ((↑(UInt8.toNat c53) : Int) > 143))],
 Prod.snd (Prod.snd c48))) (some ([AV.bool false], Prod.snd (Prod.snd c48))))))) fun c54 => unc (Prod.fst c54) fun v55 l56 => asB v55 fun b57 => un0 l56 (ifB b57 (some (AV.int .i64 0)) (some (AV.int .i64 n26)))) fun _x
 => some (AV.int .i64 n51)))))))
theorem g43_eq (x0 x1 : AV) : bareS vE 43 [x0, x1] = g43 x0 x1 := by kernel_rfl
/-- (*strings.Builder).WriteString -/
noncomputable def w44 : AV → AV → St → Option (AV × St) := fun x0 x1 st => asS x1 fun l0 => planS (orc vE) (primP (Prim.copyCheck [(53, 2, 0), (54, 2, 0), (55, 4, 0), (56, 4, 0)]) [x0]) st fun _x st2 _x_1 => chk (notNil
 x0) (fldA 1 x0 fun v4 => loadS 1 false v4 st2 fun v5 _x => fitTs false (ofBytes l0) fun l7 => chk (sizesOk 1 l7) (appS 1 1 5 v5 l7 st2 fun v8 st9 _x => chk (notNil x0) (fldA 1 x0 fun v11 => asOne v8 (asOne v8 (storeS
 (orc vE) 1 v11 v8 [v8] st9 fun _x st13 _x_2 => some (AV.tup [AV.int .i64 (↑(List.length l0) : Int), AV.nili], st13))))))
theorem w44_eq (x0 x1 : AV) (st : St) : wideS vE 44 [x0, x1] st = w44 x0 x1 st := by kernel_rfl
end Go.Proofs.YteajphhelkdjnaaDoor.Vm
/- Layouts cs data. -/
set_option maxRecDepth 100000
namespace Go.Proofs.YteajphhelkdjnaaDoor.Vm
open Go Go.VM Go.Proofs

inductive Doc where
  | mk (kind : Int) (text : List UInt8) (n : Int) (kids : List Doc)
mutual
/-- A layout, cs a value. -/
def IsDoc : Doc → AV → Prop
  | .mk k s n kids, v => ∃ x es, v = .agg [.int .u8 k, .str s, .int .i64 n, x] ∧ (0 ≤ k ∧ k ≤ 255) ∧ s.length ≤ 9223372036854775807 ∧ (-9223372036854775808 ≤ n ∧ n ≤ 9223372036854775807) ∧ IsSl 4 x es ∧ IsDocs kids es
def IsDocs : List Doc → List AV → Prop
  | [], es => es = []
  | d :: ds, es => ∃ v vs, es = v :: vs ∧ IsDoc d v ∧ IsDocs ds vs
end
def lawS : List TypeId := [24, 5, 9, 3, 22]
theorem lawS_ok : ∀ t, inS lawS t = true → okTy Tryd.prog lawS t = true := by
  intro t ht
  have : t ∈ lawS := by
    obtain ⟨u, hu, e⟩ := List.any_eq_true.1 ht
    rw [← Nat.eq_of_beq_eq_true e]; exact hu
  exact List.all_eq_true.1 (show (lawS.all fun t => okTy Tryd.prog lawS t) = true by kernel_rfl) t this
theorem av_int {n t : Nat} {k : IntKind} {cs : List AV} (hu : Tryd.prog.underlying t = some (.int k)) (h : AvOf Tryd.prog n t cs) : ∃ m, cs = [.int k m] ∧ k.min ≤ m ∧ m ≤ k.max := by
  cases n with
  | zero => cases h
  | succ n => simp only [AvOf, hu] at h; exact h
theorem av_str {n t : Nat} {cs : List AV} (hu : Tryd.prog.underlying t = some .string) (h : AvOf Tryd.prog n t cs) : ∃ s, cs = [.str s] ∧ s.length ≤ maxLen := by
  cases n with
  | zero => cases h
  | succ n => simp only [AvOf, hu] at h; exact h
theorem sl_of {n t e : Nat} {cs : List AV} {Q : AV → Prop} (hu : Tryd.prog.underlying t = some (.slice e)) (h : AvOf Tryd.prog n t cs) (hQ : ∀ a, AvOf Tryd.prog (n - 1) e a → Q (mkV (isSt Tryd.prog e) a)) :
    ∃ x es, cs = [x] ∧ IsSl (Tryd.prog.cellsOf e) x es ∧ ∀ v ∈ es, Q v := by
  cases n with
  | zero => cases h
  | succ n =>
    simp only [AvOf, hu] at h
    rcases h with rfl | rfl | ⟨L, rfl, hl, hL⟩
    · exact ⟨_, [], rfl, IsSl.nils, by simp⟩
    · exact ⟨_, [], rfl, IsSl.emp, by simp⟩
    · refine ⟨_, _, rfl, IsSl.wide (by rw [List.length_map]; simpa [maxLen] using hl), fun v hv => ?_⟩
      obtain ⟨a, ha, rfl⟩ := List.mem_map.1 hv
      exact hQ a (hL a ha)
theorem docs_of : ∀ {es : List AV}, (∀ v ∈ es, ∃ d, IsDoc d v) → ∃ ds, IsDocs ds es
  | [], _ => ⟨[], rfl⟩
  | v :: vs, h => by
    obtain ⟨d, hd⟩ := h v (by simp)
    obtain ⟨ds, hds⟩ := docs_of (es := vs) fun u hu => h u (List.mem_cons_of_mem _ hu)
    exact ⟨d :: ds, v, vs, rfl, hd, hds⟩
theorem doc_of (n : Nat) : ∀ cs, AvOf Tryd.prog n 24 cs → ∃ d, IsDoc d (.agg cs) := by
  induction n using Nat.strongRecOn with
  | _ n ih =>
    intro cs h
    cases n with
    | zero => cases h
    | succ n =>
      simp only [AvOf, Tryd.underlying24] at h
      obtain ⟨a0, b0, rfl, h0, a1, b1, rfl, h1, a2, b2, rfl, h2, a3, b3, rfl, h3, rfl⟩ := h
      obtain ⟨k, rfl, hk⟩ := av_int Tryd.underlying5 h0
      obtain ⟨s, rfl, hs⟩ := av_str Tryd.underlying9 h1
      obtain ⟨m, rfl, hm⟩ := av_int Tryd.underlying3 h2
      obtain ⟨x, es, rfl, hx, hes⟩ := sl_of (Q := fun v => ∃ d, IsDoc d v) Tryd.underlying22 h3 fun a ha => by
        have hst : isSt Tryd.prog 24 = true := by kernel_rfl
        rw [hst]
        exact ih (n - 1) (by omega) a ha
      obtain ⟨ds, hds⟩ := docs_of hes
      have hz : Tryd.prog.cellsOf 24 = 4 := by kernel_rfl
      rw [hz] at hx
      exact ⟨.mk k s m ds, x, es, rfl, hk, by simpa [maxLen] using hs, hm, hx, hds⟩
end Go.Proofs.YteajphhelkdjnaaDoor.Vm
/- Layouts: hard, by the reference and by the program. -/
set_option maxRecDepth 100000
namespace Go.Proofs.YteajphhelkdjnaaDoor.Vm
open Go Go.VM Go.Proofs

mutual
def hardD : Doc → Bool
  | .mk k _ _ kids => k == 4 || hardDs kids
def hardDs : List Doc → Bool
  | [] => false
  | d :: l => hardD d || hardDs l
end
theorem IsDoc.bare {d : Doc} {v : AV} (h : IsDoc d v) : VM.bare v = true ∧ strip v = v := by
  cases d with
  | mk k s n kids =>
    obtain ⟨x, es, rfl, _, _, _, hx, _⟩ := h
    refine ⟨?_, rfl⟩
    show (true && (true && (true && (VM.bare x && true)))) = true
    rw [hx.bare]; rfl
theorem call1 {f : FuncId} {v r : AV} (st : St) (hf : vE.full f = false) (hb : VM.bare v = true ∧ strip v = v) (h : (orc vE).bare f [v] = some r) {β : Type} (K : Kv β) : callS (orc vE) f [v] st K = K r st q0 :=
  callS_bare st K hf (by simp [hb.2]) (by simp [bares_cons, hb.1]; rfl) h
/-- An element of a slice of layouts is read: what follows. -/
theorem elem_doc {β : Type} {ds : List Doc} {d : Doc} {x : AV} {es : List AV} {i : Nat} (hx : IsSl 4 x es) (hd : IsDocs (d :: ds) (es.drop i)) : ∃ v, IsDoc d v ∧ IsDocs ds (es.drop (i + 1)) ∧ ((i : Int) < (es.length : Int)) ∧
    IntKind.wrap .i64 ((i : Int) + 1) = ((i + 1 : Nat) : Int) ∧ (∀ (st : St) (K : AV → List Nat → Option β), idxA 4 x (i : Int) st K = K (.ip v.cells) []) ∧ takeO 4 true v.cells = some v := by
  obtain ⟨v, vs, he, hv, hd⟩ := hd
  obtain ⟨hg, hr, hlt⟩ := drop_cons he
  refine ⟨v, hv, by rw [hr]; exact hd, by omega, wrap_i64 (by omega) (by have := hx.1; omega), fun st K => hx.idx hg st K, ?_⟩
  obtain ⟨k, s, n, kids⟩ := d
  obtain ⟨y, es', rfl, _⟩ := hv
  rfl
theorem no_doc {es : List AV} {i : Nat} (hd : IsDocs [] (es.drop i)) : ¬ ((i : Int) < (es.length : Int)) := by
  have hd : es.drop i = [] := hd
  have := List.drop_eq_nil_iff.1 hd
  omega
mutual
/-- The reference's hard. -/
theorem hard_ref : ∀ (d : Doc) (v : AV), IsDoc d v → (orc vE).bare 26 [v] = some (.bool (hardD d))
  | .mk k s n kids, v, hv => by
    obtain ⟨x, es, rfl, _, _, _, hx, hes⟩ := hv
    refine bare_of rfl ((g26_eq _).trans ?_)
    have hl : loopO (g26_L1 x) ([AV.bool false, AV.int .i64 0], St.mk 0 0 Tr.leaf) = _ := hard_loop kids x es 0 (St.mk 0 0 Tr.leaf) hx (by simpa using hes)
    simp only [g26, unA_agg, unc_cons, asI_int, asS_str, un0_nil, hx.asOne, hx.fit1]
    by_cases hk : k = 4
    · subst hk; simp [hardD]
    · rw [hl]
      cases hh : hardDs kids <;> simp [hk, hardD, hh]
theorem hard_loop : ∀ (ds : List Doc) (x : AV) (es : List AV) (i : Nat) (st : St), IsSl 4 x es → IsDocs ds (es.drop i) →
    loopO (g26_L1 x) ([.bool false, .int .i64 (i : Int)], st) = some (if hardDs ds then (1, [.bool true], st) else (0, [.bool false], st))
  | [], x, es, i, st, hx, hd => by
    have hi := no_doc hd
    rw [loopO_eq]
    simp [g26_L1, hx.len, hi, hardDs]
  | d :: ds, x, es, i, st, hx, hd => by
    obtain ⟨v, hv, hd, hi, hw, hidx, ht⟩ := elem_doc (β := Sum Car (Nat × Car)) hx hd
    have hcall := fun K => call1 (β := Sum Car (Nat × Car)) (f := 26) st rfl hv.bare (hard_ref d v hv) K
    have ih := hard_loop ds x es (i + 1) st hx hd
    obtain ⟨k, s, n, kids⟩ := d
    obtain ⟨y, es', rfl, _⟩ := hv
    rw [loopO_eq]
    simp only [g26_L1, unc_cons, asB_bool, asI_int, un0_nil, hx.len, ifB_decide, if_pos hi, hidx, loadS_ip, ht, bindO_ok, unA_agg, asS_str, hcall, letV_eq, hw]
    cases hh : hardD (.mk k s n kids)
    · simp only [ifB_false, hardDs, hh, Bool.false_or]; exact ih
    · simp [hardDs, hh]
end
/-- The first of a list of layouts that is as a function says. -/
def findD (p : Doc → Bool) : List Doc → Nat → Option Nat
  | [], _ => none
  | d :: l, i => if p d then some i else findD p l (i + 1)
theorem findD_some {p : Doc → Bool} : ∀ {l : List Doc} {i : Nat}, (findD p l i).isSome = l.any p
  | [], _ => rfl
  | d :: l, i => by
    simp only [findD, List.any_cons]
    cases h : p d
    · simpa [h] using findD_some (p := p) (l := l) (i := i + 1)
    · simp
/-- slices.IndexFunc's loop. -/
theorem index_loop {f : FuncId} (hf : vE.full f = false) (hp : vE.prim f = none) (p : Doc → Bool) : ∀ (ds : List Doc) (x : AV) (es : List AV) (i : Nat) (st : St), IsSl 4 x es → IsDocs ds (es.drop i) →
    (∀ d ∈ ds, ∀ v, IsDoc d v → (orc vE).bare f [v] = some (.bool (p d))) →
    loopO (g42_L1 x (.fn (.func f) [] []) es.length) ([.int .i64 0, .int .i64 (i : Int)], st) = some (match findD p ds i with | some j => (1, [.int .i64 (j : Int)], st) | none => (0, [.int .i64 0], st))
  | [], x, es, i, st, hx, hd, _ => by
    have hi := no_doc hd
    rw [loopO_eq]
    simp [g42_L1, hi, findD]
  | d :: ds, x, es, i, st, hx, hd, hc => by
    obtain ⟨v, hv, hd, hi, hw, hidx, ht⟩ := elem_doc (β := Sum Car (Nat × Car)) hx hd
    have hcall := fun K => call1 (β := Sum Car (Nat × Car)) (f := f) st hf hv.bare (hc d (by simp) v hv) K
    have ih := index_loop hf hp p ds x es (i + 1) st hx hd fun d hd => hc d (by simp [hd])
    have hF : ∀ (a : AV) (K : Kv (Sum Car (Nat × Car))), callF (orc vE) (Sx.prim (sx vE 42)) (.fn (.func f) [] []) [a] st K = callS (orc vE) f [a] st K := fun a K => by
      have hp : Sx.prim (sx vE 42) f = none := hp
      simp only [callF, callP, hp, List.nil_append, List.append_nil]
      rfl
    obtain ⟨k, s, n, kids⟩ := d
    obtain ⟨y, es', rfl, _⟩ := hv
    rw [loopO_eq]
    simp only [g42_L1, unc_cons, asI_int, un0_nil, ifB_decide, if_pos hi, hidx, loadS_ip, ht, bindO_ok, unA_agg, asS_str, hF, hcall, letV_eq, hw, asB_bool]
    cases hh : p (.mk k s n kids)
    · simp only [ifB_false, findD, hh]; exact ih
    · simp [findD, hh]
theorem contains_of {f : FuncId} (hf : vE.full f = false) (hp : vE.prim f = none) (p : Doc → Bool) {ds : List Doc} {x : AV} {es : List AV} (hx : IsSl 4 x es) (hd : IsDocs ds es)
    (hc : ∀ d ∈ ds, ∀ v, IsDoc d v → (orc vE).bare f [v] = some (.bool (p d))) {β : Type} (st : St) (K : Kv β) : callS (orc vE) 29 [x, .fn (.func f) [] []] st K = K (.bool (ds.any p)) st q0 := by
  have h42 : (orc vE).bare 42 [x, .fn (.func f) [] []] = some (.int .i64 (match findD p ds 0 with | some j => (j : Int) | none => -1)) := by
    refine bare_of rfl ((g42_eq _ _).trans ?_)
    have hl : loopO (g42_L1 x (.fn (.func f) [] []) es.length) ([.int .i64 0, .int .i64 0], St.mk 0 0 Tr.leaf) = _ := index_loop hf hp p ds x es 0 (St.mk 0 0 Tr.leaf) hx (by simpa using hd) hc
    simp only [g42, hx.len, hl]
    cases findD p ds 0 <;> simp
  have hbs : [x, AV.fn (.func f) [] []].map strip = [x, AV.fn (.func f) [] []] := by simp [hx.strip]; rfl
  have hbb : bares [x, AV.fn (.func f) [] []] = true := by simp only [bares_cons, hx.bare]; rfl
  refine callS_bare st K rfl hbs hbb (bare_of rfl ((g29_eq _ _).trans ?_))
  rw [g29, callS_bare _ _ rfl hbs hbb h42]
  have := findD_some (p := p) (l := ds) (i := 0)
  cases h : findD p ds 0 with
  | none => rw [h] at this; simp [← this]
  | some j => rw [h] at this; simp [← this]
theorem hardDs_any : ∀ (ds : List Doc), hardDs ds = ds.any hardD
  | [] => rfl
  | d :: ds => by simp [hardDs, hardDs_any ds]
theorem mem_size {d : Doc} : ∀ {ds : List Doc}, d ∈ ds → SizeOf.sizeOf d < SizeOf.sizeOf ds
  | _ :: _, h => by
    rcases List.mem_cons.1 h with rfl | h
    · simp; omega
    · have := mem_size h; simp; omega
/-- The program's hard. -/
theorem hard_prog (d : Doc) (v : AV) (hv : IsDoc d v) : (orc vE).bare 25 [v] = some (.bool (hardD d)) := by
  match d with
  | .mk k s n kids =>
    obtain ⟨x, es, rfl, _, _, _, hx, hes⟩ := hv
    refine bare_of rfl ((g25_eq _).trans ?_)
    have hc := fun (K : Kv Car) => contains_of (f := 25) rfl rfl hardD hx hes (fun d hd v hv => hard_prog d v hv) (St.mk 0 0 Tr.leaf) K
    simp only [g25, unA_agg, unc_cons, asI_int, asS_str, un0_nil, hx.asOne, hx.fit1, hc]
    by_cases hk : k = 4
    · subst hk; simp [hardD]
    · simp [hk, hardD, hardDs_any]
termination_by SizeOf.sizeOf d
decreasing_by
  have := mem_size hd
  simp_wf
  omega
end Go.Proofs.YteajphhelkdjnaaDoor.Vm
/- Layouts: characters; how many parts. -/
set_option maxRecDepth 100000
namespace Go.Proofs.YteajphhelkdjnaaDoor.Vm
open Go Go.VM Go.Proofs

theorem chars_loop : ∀ (l s : List UInt8) (i n : Nat) (st : St), s.drop i = l → s.length ≤ 9223372036854775807 → n ≤ i →
    loopO (g22_L1 s) ([.int .i64 (n : Int), .int .i64 (i : Int)], st) = some (0, [.int .i64 ((n + chars l : Nat) : Int)], st)
  | [], s, i, n, st, hd, hs, hn => by
    have hi : ¬ ((i : Int) < (s.length : Int)) := by
      have := List.drop_eq_nil_iff.1 hd
      omega
    rw [loopO_eq]
    simp [g22_L1, hi, chars]
  | b :: l, s, i, n, st, hd, hs, hn => by
    obtain ⟨hg, hr, hlt⟩ := drop_cons hd
    have hi : (i : Int) < (s.length : Int) := by omega
    have hw1 : IntKind.wrap .i64 ((i : Int) + 1) = ((i + 1 : Nat) : Int) := wrap_i64 (by omega) (by omega)
    have hw2 : IntKind.wrap .i64 ((n : Int) + 1) = ((n + 1 : Nat) : Int) := wrap_i64 (by omega) (by omega)
    have hb : s[i] = b := by
      rw [List.getElem?_eq_getElem hlt] at hg
      exact Option.some.inj hg
    have hidx : ∀ {β : Type} (K : UInt8 → Option β), idxStr s (i : Int) K = K b := fun K => by rw [idxStr_nat hlt, hb]
    rw [loopO_eq]
    by_cases hh : isHead b = true
    · have ih := chars_loop l s (i + 1) (n + 1) st hr hs (by omega)
      have hc : chars (b :: l) = chars l + 1 := by simp [chars, hh]
      have e : n + 1 + chars l = n + (chars l + 1) := by omega
      have h1 : ((b.toNat : Int) < 128) ∨ ¬ ((b.toNat : Int) < 128) ∧ (b.toNat : Int) > 191 := by
        simp only [isHead, Bool.or_eq_true, decide_eq_true_eq] at hh
        omega
      rcases h1 with h1 | ⟨h1, h2⟩
      · simp only [g22_L1, unc_cons, asI_int, un0_nil, ifB_decide, if_pos hi, hidx, if_pos h1, bindO_ok, asB_bool, ifB_true, letV_eq, hw1, hw2, ih, hc, e]
      · simp only [g22_L1, unc_cons, asI_int, un0_nil, ifB_decide, if_pos hi, hidx, if_neg h1, bindO_ok, asB_bool, if_pos h2, letV_eq, hw1, hw2, ih, hc, e]
    · have ih := chars_loop l s (i + 1) n st hr hs (by omega)
      have hc : chars (b :: l) = chars l := by simp [chars, hh]
      have h1 : ¬ ((b.toNat : Int) < 128) ∧ ¬ ((b.toNat : Int) > 191) := by
        simp only [isHead, Bool.or_eq_true, decide_eq_true_eq, not_or] at hh
        omega
      simp only [g22_L1, unc_cons, asI_int, un0_nil, ifB_decide, if_pos hi, hidx, if_neg h1.1, bindO_ok, asB_bool, if_neg h1.2, letV_eq, hw1, ih, hc]
theorem chars_ref (s : List UInt8) (hs : s.length ≤ 9223372036854775807) : (orc vE).bare 22 [.str s] = some (.int .i64 (chars s : Int)) := by
  refine bare_of rfl ((g22_eq _).trans ?_)
  have hl : loopO (g22_L1 s) ([.int .i64 0, .int .i64 0], St.mk 0 0 Tr.leaf) = _ := chars_loop s s 0 0 (St.mk 0 0 Tr.leaf) rfl hs (Nat.le_refl _)
  simp [g22, hl]
end Go.Proofs.YteajphhelkdjnaaDoor.Vm
/- Layouts: the law's copy of a layout. -/
set_option maxRecDepth 100000
namespace Go.Proofs.YteajphhelkdjnaaDoor.Vm
open Go Go.VM Go.Proofs

mutual
def cntD : Doc → Nat
  | .mk _ _ _ kids => 1 + cntDs kids
def cntDs : List Doc → Nat
  | [] => 0
  | d :: l => cntD d + cntDs l
end
theorem cnt_pos : ∀ (d : Doc), 1 ≤ cntD d
  | .mk _ _ _ _ => by simp [cntD]
/-- The copy's state: the copy lies at 1. -/
structure InvG (st : St) (k : Int) (s : List UInt8) (n : Int) (v : AV) (ws : List AV) : Prop where
  c1 : st.get 1 = .ok (.cells 32 [.int .u8 k, .str s, .int .i64 n, v])
  c0 : ∃ cs, st.get 0 = .ok (.cells 32 cs) ∧ cs.length = 4
  own : Own st 4 32 v ws
  ro : st.ro = 0
theorem store_at {β : Type} {st : St} {id off : Nat} {t : TypeId} {old : List AV} {z : Nat} {v : AV} {cs : List AV} (hg : st.get id = .ok (.cells t old)) (hz : cs.length = z) (hl : off + cs.length ≤ old.length) (hro : st.ro ≤ id) (K : Kv β) :
    storeS (orc vE) z (.mp id off) v cs st K = K VM.undef (st.put id (.cells t (splice old off cs))) ⟨[id], .wrote id (.cells t (splice old off cs))⟩ := by
  have h1 : cs.length.beq z = true := by rw [hz]; exact Nat.beq_refl z
  simp only [storeS, outS, storeO, h1, hg, Nat.ble_eq_true_of_le hl, wroteO, Nat.ble_eq_true_of_le hro, bindO_ok, splS]
theorem IsDocs.snoc : ∀ {ds : List Doc} {ws : List AV} {d : Doc} {w : AV}, IsDocs ds ws → IsDoc d w → IsDocs (ds ++ [d]) (ws ++ [w])
  | [], ws, d, w, h, hw => by
    have h : ws = [] := h
    subst h
    exact ⟨w, [], rfl, hw, rfl⟩
  | e :: ds, ws, d, w, h, hw => by
    obtain ⟨u, us, rfl, hu, h⟩ := h
    exact ⟨u, us ++ [w], rfl, hu, IsDocs.snoc h hw⟩
mutual
theorem given_ok : ∀ (d : Doc) (v : AV), IsDoc d v → cntD d ≤ 100000 → ∃ v', (orc vE).bare 11 [v] = some v' ∧ IsDoc d v'
  | .mk k s n kids, v, hv, hc => by
    obtain ⟨x, es, rfl, r1, r2, r3, hx, hes⟩ := hv
    simp only [cntD] at hc
    obtain ⟨st', v', us, hrun, hus, hfin⟩ := given_loop kids x es 0 (St.mk 2 0 (Tr.node (some (VM.Obj.cells 32 [AV.int .u8 0, AV.str [], AV.int .i64 0, AV.nils])) (Tr.node
      (some (VM.Obj.cells 32 [.int .u8 k, AV.str s, .int .i64 n, AV.nils])) Tr.leaf Tr.leaf) Tr.leaf)) k s n .nils [] hx (by simpa using hes) (by simp; omega)
      ⟨rfl, ⟨_, rfl, rfl⟩, Own.nils (show 0 ≤ 2 by omega) 4 32, rfl⟩
    obtain ⟨cs0, hc0, hl0⟩ := hfin.c0
    have hro : st'.ro ≤ 0 := by rw [hfin.ro]; exact Nat.le_refl _
    have hst := fun K => store_at (β := AV) (id := 0) (off := 0) (z := 4) (v := .agg [.int .u8 k, .str s, .int .i64 n, v']) (cs := [.int .u8 k, .str s, .int .i64 n, v']) hc0 rfl (by simp [hl0]) hro K
    have hsp : splice cs0 0 [.int .u8 k, .str s, .int .i64 n, v'] = [.int .u8 k, .str s, .int .i64 n, v'] := by
      simp [splice, hl0]
    rw [hsp] at hst
    have hg0 : (st'.put 0 (.cells 32 [.int .u8 k, .str s, .int .i64 n, v'])).get 0 = .ok (.cells 32 [.int .u8 k, .str s, .int .i64 n, v']) := St.get_put_same (St.get_ok.1 hc0).1
    have hfz : ∃ y, IsSl 4 y us ∧ ∀ (st : St) (K : AV → Option AV), frzS st 0 (.agg [.int .u8 k, .str s, .int .i64 n, v']) K = K (.agg [.int .u8 k, .str s, .int .i64 n, y]) := by
      rcases hfin.own with ⟨_, hle, ⟨rfl | rfl, hu⟩ | rfl | ⟨j, rfl, _, _⟩⟩
      · have hu : us = [] := by simpa using hu
        subst hu
        exact ⟨.nils, IsSl.nils, fun _ _ => rfl⟩
      · have hu : us = [] := by simpa using hu
        subst hu
        exact ⟨.es, IsSl.emp, fun _ _ => rfl⟩
      · exact ⟨.sl 4 us .shut, IsSl.shut (by simpa using hle), fun _ _ => rfl⟩
      · exact ⟨.sl 4 us .wide, IsSl.wide (by simpa using hle), fun _ _ => rfl⟩
    obtain ⟨y, hy, hfz⟩ := hfz
    have ho := hfin.own.one
    refine ⟨.agg [.int .u8 k, .str s, .int .i64 n, y], bare_of rfl ((g11_eq _).trans ?_), y, us, rfl, r1, r2, r3, hy, hus⟩
    have hrun : loopO (g11_L1 x) ([AV.int .i64 0], _) = _ := hrun
    have ht : ∀ v : AV, takeO 4 true [.int .u8 k, .str s, .int .i64 n, v] = some (.agg [.int .u8 k, .str s, .int .i64 n, v]) := fun _ => rfl
    simp only [g11, unA_agg, unc_cons, asI_int, asS_str, un0_nil, hx.asOne, hx.fit1, hrun, bindO_ok, loadS_mp hfin.c1, List.drop_zero, ht, asOne_of ho, hst, loadS_mp hg0, hfz]
theorem given_loop : ∀ (ds : List Doc) (x : AV) (es : List AV) (i : Nat) (st : St) (k : Int) (s : List UInt8) (n : Int) (v : AV) (ws : List AV), IsSl 4 x es → IsDocs ds (es.drop i) → cntDs ds + ws.length ≤ 100000 → InvG st k s n v ws →
    ∃ st' v' us, loopO (g11_L1 x) ([.int .i64 (i : Int)], st) = some (0, [], st') ∧ IsDocs ds us ∧ InvG st' k s n v' (ws ++ us)
  | [], x, es, i, st, k, s, n, v, ws, hx, hd, hc, hI => by
    have hi := no_doc hd
    refine ⟨st, v, [], ?_, rfl, by simpa using hI⟩
    rw [loopO_eq]
    simp [g11_L1, hx.len, hi]
  | d :: ds, x, es, i, st, k, s, n, v, ws, hx, hd, hc, hI => by
    obtain ⟨u, hu, hd2, hi, hw, hidx, ht⟩ := elem_doc (β := Sum Car (Nat × Car)) hx hd
    simp only [cntDs] at hc
    obtain ⟨u', hcall, hu'⟩ := given_ok d u hu (by omega)
    have hcall := fun K => call1 (β := Sum Car (Nat × Car)) (f := 11) st rfl hu.bare hcall K
    have hpos := cnt_pos d
    obtain ⟨k', s', n', kids⟩ := d
    obtain ⟨y, es', rfl, _⟩ := hu
    have hu2 := hu'
    obtain ⟨y', es2, rfl, r1, r2, r3, hy', hk'⟩ := hu'
    have hroom : roomOk (ws.length + [AV.agg [.int .u8 k', .str s', .int .i64 n', y']].length) ⟨.other, 4, 56, [], false, false⟩ = true := by
      simp only [roomOk, List.length_singleton, Bool.and_eq_true]
      refine ⟨Nat.ble_eq_true_of_le (by omega), rfl, Nat.ble_eq_true_of_le (by omega)⟩
    obtain ⟨v2, st2, x2, happ, hown, hkeep, hnew⟩ := app_own (b := 56) hI.own (new := [.agg [.int .u8 k', .str s', .int .i64 n', y']]) (by simp) hroom
    have g1 := hkeep.old 1 _ (hI.own.not hI.c1) hI.c1
    obtain ⟨cs0, hc0, hl0⟩ := hI.c0
    have g0 := hkeep.old 0 _ (hI.own.not hc0) hc0
    have hro2 : st2.ro = 0 := by rw [hkeep.ro]; exact hI.ro
    have hst := fun K => store_at (β := Sum Car (Nat × Car)) (id := 1) (off := 3) (z := 1) (v := v2) (cs := [v2]) g1 rfl (by simp) (by omega) K
    have h1lt := (St.get_ok.1 g1).1
    have hI' : InvG (st2.put 1 (.cells 32 [.int .u8 k, .str s, .int .i64 n, v2])) k s n v2 (ws ++ [.agg [.int .u8 k', .str s', .int .i64 n', y']]) := by
      refine ⟨St.get_put_same h1lt, ⟨cs0, by rw [St.get_put_ne (by omega)]; exact g0, hl0⟩, ?_, hro2⟩
      exact hown.put g1
    obtain ⟨st', v', us, hrun, hus, hfin⟩ := given_loop ds x es (i + 1) _ k s n v2 _ hx hd2 (by rw [List.length_append]; simp; omega) hI'
    refine ⟨st', v', .agg [.int .u8 k', .str s', .int .i64 n', y'] :: us, ?_, ⟨_, _, rfl, hu2, hus⟩, by simpa using hfin⟩
    have hap : (apart (Fx.mk [1] Did.kept) q0 && (apart (Fx.mk [] Did.kept) q0 && true)) = true := rfl
    have ho2 := hown.one
    rw [loopO_eq]
    simp only [g11_L1, unc_cons, asI_int, un0_nil, hx.len, ifB_decide, if_pos hi, loadS_mp hI.c1, List.drop_succ_cons, List.drop_zero, takeO_one, bindO_ok, hidx, loadS_ip, ht, unA_agg, asS_str, hcall, hap, chk_true, hy'.asOne, hy'.fit1, appS_of happ, asOne_of ho2, hst, letV_eq, hw]
    exact hrun
end
end Go.Proofs.YteajphhelkdjnaaDoor.Vm
/- Layouts: how many parts, as far as a bound. -/
set_option maxRecDepth 100000
namespace Go.Proofs.YteajphhelkdjnaaDoor.Vm
open Go Go.VM Go.Proofs

mutual
def costD : Doc → Nat
  | .mk _ s _ kids => 1 + s.length / 20 + costDs kids
def costDs : List Doc → Nat
  | [] => 0
  | d :: l => costD d + costDs l
end
theorem cost_pos : ∀ (d : Doc), 1 ≤ costD d
  | .mk _ _ _ _ => by simp [costD]; omega
def BB : Nat := 461168601842738791
mutual
theorem parts_ok : ∀ (d : Doc) (v : AV) (most : Nat), IsDoc d v → most ≤ 1000000 →
    ∃ r : Nat, (orc vE).bare 8 [v, .int .i64 (most : Int)] = some (.int .i64 (r : Int)) ∧ r ≤ most + BB ∧ (costD d < most → r = costD d) ∧ (most ≤ costD d → most ≤ r)
  | .mk k s n kids, v, most, hv, hm => by
    obtain ⟨x, es, rfl, r1, r2, r3, hx, hes⟩ := hv
    have e1 : Int.tdiv ((s.length : Nat) : Int) 20 = ((s.length / 20 : Nat) : Int) := by
      rw [Int.tdiv_eq_ediv_of_nonneg (by omega)]; rfl
    have hw1 : IntKind.wrap .i64 (Int.tdiv ((s.length : Nat) : Int) 20) = ((s.length / 20 : Nat) : Int) := by rw [e1]; exact wrap_i64 (by omega) (by omega)
    have hw2 : IntKind.wrap .i64 (1 + ((s.length / 20 : Nat) : Int)) = ((1 + s.length / 20 : Nat) : Int) := wrap_i64 (by omega) (by omega)
    obtain ⟨r, hrun, h1, h2, h3⟩ := parts_loop kids x es 0 (St.mk 0 0 Tr.leaf) (1 + s.length / 20) most hx (by simpa using hes) (by unfold BB; omega) hm
    refine ⟨r, bare_of rfl ((g8_eq _ _).trans ?_), h1, by simpa [costD] using h2, by simpa [costD] using h3⟩
    have hrun : loopO (g8_L1 (most : Int) x) ([.int .i64 ((1 + s.length / 20 : Nat) : Int), .int .i64 0], _) = _ := hrun
    simp only [g8, unA_agg, unc_cons, asI_int, asS_str, un0_nil, hx.asOne, hx.fit1, letV_eq, hw1, hw2, hrun, bindO_ok]
theorem parts_loop : ∀ (ds : List Doc) (x : AV) (es : List AV) (i : Nat) (st : St) (n most : Nat), IsSl 4 x es → IsDocs ds (es.drop i) → n ≤ most + BB → most ≤ 1000000 →
    ∃ r : Nat, loopO (g8_L1 (most : Int) x) ([.int .i64 (n : Int), .int .i64 (i : Int)], st) = some (0, [.int .i64 (r : Int)], st) ∧ r ≤ most + BB ∧ (n + costDs ds < most → r = n + costDs ds) ∧ (most ≤ n + costDs ds → most ≤ r)
  | [], x, es, i, st, n, most, hx, hd, hn, hm => by
    have hi := no_doc hd
    refine ⟨n, ?_, hn, by simp [costDs], by simp [costDs]⟩
    rw [loopO_eq]
    simp [g8_L1, hx.len, hi]
  | d :: ds, x, es, i, st, n, most, hx, hd, hn, hm => by
    obtain ⟨u, hu, hd2, hi, hw, hidx, ht⟩ := elem_doc (β := Sum Car (Nat × Car)) hx hd
    by_cases hlt : n < most
    · obtain ⟨q, hcall, q1, q2, q3⟩ := parts_ok d u (most - n) hu (by omega)
      have hcall : ∀ K, callS (orc vE) 8 [u, .int .i64 ((most - n : Nat) : Int)] st K = K (.int .i64 (q : Int)) st q0 := fun K => callS_bare (β := Sum Car (Nat × Car)) st K rfl (by simp [hu.bare.2]; rfl) (by simp only [bares_cons, hu.bare.1]; rfl) hcall
      have hwm : IntKind.wrap .i64 ((most : Int) - (n : Int)) = ((most - n : Nat) : Int) := by rw [wrap_i64 (by omega) (by omega)]; omega
      have hwq : IntKind.wrap .i64 ((n : Int) + (q : Int)) = ((n + q : Nat) : Int) := wrap_i64 (by omega) (by unfold BB at *; omega)
      obtain ⟨r, hrun, h1, h2, h3⟩ := parts_loop ds x es (i + 1) st (n + q) most hx hd2 (by omega) hm
      refine ⟨r, ?_, h1, fun h => ?_, fun h => ?_⟩
      · have hlt' : (n : Int) < (most : Int) := by omega
        obtain ⟨k', s', n', kids⟩ := d
        obtain ⟨y, es', rfl, _⟩ := hu
        rw [loopO_eq]
        simp only [g8_L1, unc_cons, asI_int, un0_nil, hx.len, ifB_decide, if_pos hi, if_pos hlt', bindO_ok, asB_bool, hidx, loadS_ip, ht, unA_agg, asS_str, letV_eq, hwm, hcall, hwq, hw]
        exact hrun
      · simp only [costDs] at h ⊢
        have := q2 (by omega)
        rw [h2 (by omega)]; omega
      · simp only [costDs] at h
        apply h3
        by_cases hq : costD d < most - n
        · rw [q2 hq]; omega
        · have := q3 (by omega); omega
    · refine ⟨n, ?_, hn, fun h => ?_, fun _ => by omega⟩
      · have hlt' : ¬ (n : Int) < (most : Int) := by omega
        rw [loopO_eq]
        simp [g8_L1, hx.len, hi, hlt']
      · omega
end
end Go.Proofs.YteajphhelkdjnaaDoor.Vm
/- Layouts: what is still to be laid out: push and pop. -/
set_option maxRecDepth 100000
namespace Go.Proofs.YteajphhelkdjnaaDoor.Vm
open Go Go.VM Go.Proofs

def All2 {α : Type} (R : α → AV → Prop) : List α → List AV → Prop
  | [], ws => ws = []
  | a :: l, ws => ∃ v vs, ws = v :: vs ∧ R a v ∧ All2 R l vs
theorem All2.len {α : Type} {R : α → AV → Prop} : ∀ {l : List α} {ws : List AV}, All2 R l ws → ws.length = l.length
  | [], _, h => by rw [show _ = [] from h]; rfl
  | a :: l, _, h => by
    obtain ⟨v, vs, rfl, _, h⟩ := h
    simp [All2.len h]
theorem All2.append {α : Type} {R : α → AV → Prop} : ∀ {l m : List α} {ws us : List AV}, All2 R l ws → All2 R m us → All2 R (l ++ m) (ws ++ us)
  | [], _, _, _, h, k => by rw [show _ = [] from h]; exact k
  | a :: l, _, _, _, h, k => by
    obtain ⟨v, vs, rfl, h1, h⟩ := h
    exact ⟨v, vs ++ _, rfl, h1, All2.append h k⟩
theorem All2.at {α : Type} {R : α → AV → Prop} : ∀ {l : List α} {ws : List AV} {i : Nat} {a : α}, All2 R l ws → l[i]? = some a → ∃ v, ws[i]? = some v ∧ R a v
  | [], _, _, _, _, h => by simp at h
  | b :: l, _, 0, a, h, hi => by
    obtain ⟨v, vs, rfl, h1, _⟩ := h
    simp at hi; subst hi
    exact ⟨v, rfl, h1⟩
  | b :: l, _, i + 1, a, h, hi => by
    obtain ⟨v, vs, rfl, _, h⟩ := h
    obtain ⟨u, h2, h3⟩ := All2.at h (by simpa using hi)
    exact ⟨u, by simpa using h2, h3⟩
theorem IsDocs.all : ∀ {ds : List Doc} {es : List AV}, IsDocs ds es → All2 IsDoc ds es
  | [], _, h => h
  | _ :: _, _, h => by
    obtain ⟨v, vs, rfl, h1, h⟩ := h
    exact ⟨v, vs, rfl, h1, h.all⟩
/-- A layout that is still to be laid out, its indent, whether flat. -/
abbrev Todo := Doc × Int × Bool
def IsTodo (f : Todo) (v : AV) : Prop := ∃ c0 c1 c2 c3, IsDoc f.1 (.agg [c0, c1, c2, c3]) ∧ v = .agg [c0, c1, c2, c3, .int .i64 f.2.1, .bool f.2.2]
theorem push_loop (ind : Int) (fl : Bool) {kids : List Doc} {x : AV} {es : List AV} (hx : IsSl 4 x es) (hk : IsDocs kids es) : ∀ (m : Nat) (v : AV) (st : St) (ws : List AV), m ≤ kids.length → Own st 6 59 v ws → ws.length + m ≤ 1000000 →
    ∃ st' v' us, loopO (g35_L1 ind fl x) ([v, .int .i64 ((m : Int) - 1)], st) = some (0, [v'], st') ∧ All2 IsTodo ((kids.take m).reverse.map fun d => (d, ind, fl)) us ∧ Own st' 6 59 v' (ws ++ us) ∧ (v ≠ .nils ∧ v ≠ .es → v' ≠ .nils ∧ v' ≠ .es)
  | 0, v, st, ws, _, hI, _ => by
    refine ⟨st, v, [], ?_, rfl, by simpa using hI, id⟩
    rw [loopO_eq]
    simp [g35_L1]
  | m + 1, v, st, ws, hm, hI, hb => by
    have hlen := hk.all.len
    have hd : kids[m]? = some kids[m] := List.getElem?_eq_getElem (by omega)
    obtain ⟨u, hu, hdoc⟩ := hk.all.at hd
    have hge : (m : Int) ≥ 0 := by omega
    have hm1 : ((m + 1 : Nat) : Int) - 1 = (m : Int) := by omega
    have hw : IntKind.wrap .i64 ((m : Int) - 1) = (m : Int) - 1 := wrap_i64 (by omega) (by have := hx.1; omega)
    have hidx := fun (st : St) (K : AV → List Nat → Option (Sum Car (Nat × Car))) => hx.idx hu st K
    have htk : kids.take (m + 1) = kids.take m ++ [kids[m]] := List.take_succ_eq_append_getElem (by omega)
    generalize kids[m] = d at hdoc htk
    obtain ⟨k, s, n, ks⟩ := d
    have hdoc' := hdoc
    obtain ⟨y, es', rfl, r1, r2, r3, hy, hk'⟩ := hdoc
    have hroom : roomOk (ws.length + [AV.agg [.int .u8 k, .str s, .int .i64 n, y, .int .i64 ind, .bool fl]].length) ⟨.other, 6, 72, [], false, false⟩ = true := by
      simp only [roomOk, List.length_singleton, Bool.and_eq_true]
      exact ⟨Nat.ble_eq_true_of_le (by omega), rfl, Nat.ble_eq_true_of_le (by omega)⟩
    obtain ⟨v2, st2, x2, happ, hown, _, _⟩ := app_own (b := 72) hI (new := [.agg [.int .u8 k, .str s, .int .i64 n, y, .int .i64 ind, .bool fl]]) (by simp) hroom
    have hne : v2 ≠ .nils ∧ v2 ≠ .es := by
      rcases hown.2.2 with ⟨_, h⟩ | rfl | ⟨j, rfl, _⟩
      · simp at h
      · exact ⟨(by intro h; cases h), (by intro h; cases h)⟩
      · exact ⟨(by intro h; cases h), (by intro h; cases h)⟩
    obtain ⟨st', v', us, hrun, hus, hfin, hne'⟩ := push_loop ind fl hx hk m v2 st2 _ (by omega) hown (by rw [List.length_append]; simp; omega)
    refine ⟨st', v', .agg [.int .u8 k, .str s, .int .i64 n, y, .int .i64 ind, .bool fl] :: us, ?_, ?_, by simpa using hfin, fun _ => hne' hne⟩
    · have ht : takeO 4 true [.int .u8 k, .str s, .int .i64 n, y] = some (.agg [.int .u8 k, .str s, .int .i64 n, y]) := rfl
      rw [loopO_eq]
      simp only [g35_L1, unc_cons, asI_int, un0_nil, ifB_decide, hm1, if_pos hge, hidx, AV.cells, loadS_ip, ht, bindO_ok, unA_agg, asS_str, hy.asOne, hy.fit1, appS_of happ, letV_eq, hw]
      exact hrun
    · rw [htk]
      simp only [List.reverse_append, List.reverse_cons, List.reverse_nil, List.nil_append, List.singleton_append, List.map_cons]
      exact ⟨_, _, rfl, ⟨_, _, _, _, hdoc', rfl⟩, hus⟩
/-- A slice that is not nil. -/
def IsSn (z : Nat) (x : AV) (es : List AV) : Prop := es.length ≤ 9223372036854775807 ∧ (x = .sl z es .shut ∨ x = .sl z es .wide)
theorem IsSn.sl {z : Nat} {x : AV} {es : List AV} (h : IsSn z x es) : IsSl z x es := ⟨h.1, .inr h.2⟩
theorem slice_full {β : Type} {z : Nat} {x : AV} {es : List AV} (h : IsSn z x es) (K : AV → Option β) : sliceS z x none (some (es.length : Int)) (some (es.length : Int)) K = K (.sl z es .shut) := by
  have hz : z.beq z = true := Nat.beq_refl z
  have h1 : hiO (some (es.length : Int)) es.length 0 = some es.length := hiO_nat (Nat.le_refl _)
  have h2 : hiO (some (es.length : Int)) es.length es.length = some es.length := hiO_nat (Nat.le_refl _)
  have h3 : es.length.beq es.length = true := Nat.beq_refl _
  rcases h.2 with rfl | rfl <;> simp only [sliceS, sliceO, hz, h1, h2, hiO_none, h3, bindO_ok, List.take_length, List.drop_zero]
theorem slice_init {β : Type} {z n : Nat} {x : AV} {es : List AV} (h : IsSn z x es) (hn : n ≤ es.length) : ∃ x', IsSn z x' (es.take n) ∧ ∀ K : AV → Option β, sliceS z x none (some (n : Int)) none K = K x' := by
  have hz : z.beq z = true := Nat.beq_refl z
  have h2 : hiO (some (n : Int)) es.length es.length = some n := hiO_nat hn
  have hl : (es.take n).length ≤ 9223372036854775807 := by rw [List.length_take]; have := h.1; omega
  rcases h.2 with rfl | rfl
  · simp only [sliceS, sliceO, hz, h2, hiO_none]
    cases e : n.beq es.length with
    | true =>
      have := Nat.eq_of_beq_eq_true e
      subst this
      exact ⟨.sl z es .shut, ⟨hl, .inl (by simp)⟩, fun _ => rfl⟩
    | false => exact ⟨.sl z (es.take n) .wide, ⟨hl, .inr rfl⟩, fun _ => rfl⟩
  · simp only [sliceS, sliceO, hz, h2, hiO_none]
    cases e : n.beq es.length with
    | true => exact ⟨.sl z (es.take n) .wide, ⟨hl, .inr rfl⟩, fun _ => rfl⟩
    | false => exact ⟨.sl z (es.take n) .wide, ⟨hl, .inr rfl⟩, fun _ => rfl⟩
/-- The program's push. -/
theorem push_ok {f : Todo} {fv x : AV} {ws : List AV} (hx : IsSn 6 x ws) (hf : IsTodo f fv) (ind : Int) (fl : Bool) (kids : List Doc) (hk : ∃ k s n, f.1 = .mk k s n kids) (hb : ws.length + kids.length ≤ 1000000) :
    ∃ x' us, (orc vE).bare 35 [x, fv, .int .i64 ind, .bool fl] = some x' ∧ IsSn 6 x' (ws ++ us) ∧ All2 IsTodo (kids.reverse.map fun d => (d, ind, fl)) us := by
  obtain ⟨d, i0, b0⟩ := f
  obtain ⟨k, s, n, hd⟩ := hk
  dsimp only at hd
  subst hd
  obtain ⟨c0, c1, c2, c3, hdoc, rfl⟩ := hf
  obtain ⟨y, es', he, r1, r2, r3, hy, hk'⟩ := hdoc
  cases he
  have hlen := hk'.all.len
  have hw : IntKind.wrap .i64 ((es'.length : Int) - 1) = (es'.length : Int) - 1 := wrap_i64 (by omega) (by have := hy.1; omega)
  obtain ⟨st', v', us, hrun, hus, hfin, hne⟩ := push_loop ind fl hy hk' kids.length (.sl 6 ws .shut) (St.mk 0 0 Tr.leaf) ws (Nat.le_refl _) (Own.shut (Nat.le_refl _) 59 hx.1) hb
  rw [← hlen] at hrun
  rw [List.take_length] at hus
  have hsn : ∃ x', IsSn 6 x' (ws ++ us) ∧ ∀ K : AV → Option AV, frzS st' 0 v' K = K x' := by
    have hne := hne ⟨(by intro h; cases h), (by intro h; cases h)⟩
    rcases hfin with ⟨_, hl, ⟨rfl | rfl, _⟩ | rfl | ⟨j, rfl, _⟩⟩
    · exact absurd rfl hne.1
    · exact absurd rfl hne.2
    · exact ⟨.sl 6 (ws ++ us) .shut, ⟨hl, .inl rfl⟩, fun _ => rfl⟩
    · exact ⟨.sl 6 (ws ++ us) .wide, ⟨hl, .inr rfl⟩, fun _ => rfl⟩
  obtain ⟨x', hx', hfz⟩ := hsn
  refine ⟨x', us, bare_of rfl ((g35_eq _ _ _ _).trans ?_), hx', hus⟩
  simp only [g35, unA_agg, unc_cons, asI_int, asS_str, asB_bool, un0_nil, hy.asOne, hy.fit1, hx.sl.len, slice_full hx, hy.len, letV_eq, hw, hrun, bindO_ok, oneOf, hfz]
end Go.Proofs.YteajphhelkdjnaaDoor.Vm
/- Layouts: pop; the reference's kids. -/
set_option maxRecDepth 100000
set_option linter.unusedSimpArgs false
namespace Go.Proofs.YteajphhelkdjnaaDoor.Vm
open Go Go.VM Go.Proofs

theorem IsTodo.shape {f : Todo} {w : AV} (h : IsTodo f w) : ∃ k s n kids y es, f.1 = .mk k s n kids ∧ w = .agg [.int .u8 k, .str s, .int .i64 n, y, .int .i64 f.2.1, .bool f.2.2] ∧ IsSl 4 y es ∧ IsDocs kids es ∧ (0 ≤ k ∧ k ≤ 255) ∧ s.length ≤ 9223372036854775807 ∧ (-9223372036854775808 ≤ n ∧ n ≤ 9223372036854775807) := by
  obtain ⟨d, i0, b0⟩ := f
  obtain ⟨c0, c1, c2, c3, hdoc, rfl⟩ := h
  obtain ⟨k, s, n, kids⟩ := d
  obtain ⟨y, es', he, r1, r2, r3, hy, hk'⟩ := hdoc
  cases he
  exact ⟨k, s, n, kids, _, es', rfl, rfl, hy, hk', r1, r2, r3⟩
theorem fz_todo {f : Todo} {w : AV} (h : IsTodo f w) : Fz 2 w ∧ VM.bare w = true ∧ strip w = w := by
  obtain ⟨k, s, n, kids, y, es, _, rfl, hy, _⟩ := h.shape
  refine ⟨fz_agg fun c hc => ?_, ?_, rfl⟩
  · simp only [List.mem_cons, List.not_mem_nil, or_false] at hc
    rcases hc with rfl | rfl | rfl | rfl | rfl | rfl
    · exact fz_int _ _
    · exact fz_str _
    · exact fz_int _ _
    · exact fz_sl hy
    · exact fz_int _ _
    · exact fz_bool _
  · simp only [bare_agg, bares_cons, hy.bare]; rfl
theorem pop_ok {f : Todo} {w x : AV} {ws : List AV} (hx : IsSn 6 x (ws ++ [w])) (hf : IsTodo f w) : ∃ x', (orc vE).bare 34 [x] = some (.tup [w, x']) ∧ IsSn 6 x' ws := by
  have hfz := fz_todo hf
  have hl : (ws ++ [w]).length = ws.length + 1 := by simp
  have hmax := hx.1
  have hw : IntKind.wrap .i64 (((ws.length + 1 : Nat) : Int) - 1) = (ws.length : Int) := by rw [wrap_i64 (by omega) (by omega)]; omega
  have hlen : ∀ {β : Type} (K : Nat → Option β), lenS x K = K (ws.length + 1) := fun K => by rw [hx.sl.len, hl]
  have hidx := fun (st : St) (K : AV → List Nat → Option AV) => hx.sl.idx (k := ws.length) (v := w) (by simp) st K
  obtain ⟨x', hx', hsl⟩ := slice_init (β := AV) hx (n := ws.length) (by omega)
  have htake : (ws ++ [w]).take ws.length = ws := by simp
  rw [htake] at hx'
  refine ⟨x', bare_of rfl ((g34_eq _).trans ?_), hx'⟩
  have hb : VM.bare (.tup [w, x']) = true := by simp only [bare_tup, bares_cons, hfz.2.1, hx'.sl.bare]; rfl
  have hf3 : Fz 3 (.tup [w, x']) := fz_tup fun c hc => by
    simp only [List.mem_cons, List.not_mem_nil, or_false] at hc
    rcases hc with rfl | rfl
    · exact hfz.1
    · exact (fz_sl hx'.sl).mono (by omega)
  have hfr := fun (st : St) (K : AV → Option AV) => frz_of hf3 (by omega) hb st 0 K
  obtain ⟨k, s, n, kids, y, es, _, rfl, hy, _⟩ := hf.shape
  have ht : takeO 6 true [.int .u8 k, .str s, .int .i64 n, y, .int .i64 f.2.1, .bool f.2.2] = some (.agg [.int .u8 k, .str s, .int .i64 n, y, .int .i64 f.2.1, .bool f.2.2]) := rfl
  simp only [g34, hlen, letV_eq, hw, hidx, AV.cells, loadS_ip, ht, bindO_ok, unA_agg, unc_cons, asI_int, asS_str, asB_bool, un0_nil, hsl, hy.asOne, hfr]
/-- The reference's kids: those ahead, then the rest. -/
theorem kids_loop (ind : Int) (fl : Bool) {x : AV} {es : List AV} (hx : IsSl 4 x es) : ∀ (ds : List Doc) (i : Nat) (v : AV) (st : St) (ws : List AV), IsDocs ds (es.drop i) → Own st 6 64 v ws → ws.length + ds.length ≤ 1000000 →
    ∃ st' v' us, loopO (g38_L1 ind fl x) ([v, .int .i64 (i : Int)], st) = some (0, [v'], st') ∧ All2 IsTodo (ds.map fun d => (d, ind, fl)) us ∧ Own st' 6 64 v' (ws ++ us)
  | [], i, v, st, ws, hd, hI, _ => by
    have hi := no_doc hd
    refine ⟨st, v, [], ?_, rfl, by simpa using hI⟩
    rw [loopO_eq]
    simp [g38_L1, hi, hx.len]
  | d :: ds, i, v, st, ws, hd, hI, hb => by
    obtain ⟨u, hu, hd2, hi, hw, hidx, ht⟩ := elem_doc (β := Sum Car (Nat × Car)) hx hd
    obtain ⟨k, s, n, kids⟩ := d
    have hu' := hu
    obtain ⟨y, es', rfl, r1, r2, r3, hy, hk'⟩ := hu
    simp only [List.length_cons] at hb
    have hroom : roomOk (ws.length + [AV.agg [.int .u8 k, .str s, .int .i64 n, y, .int .i64 ind, .bool fl]].length) ⟨.other, 6, 72, [], false, false⟩ = true := by
      simp only [roomOk, List.length_singleton, Bool.and_eq_true]
      exact ⟨Nat.ble_eq_true_of_le (by omega), rfl, Nat.ble_eq_true_of_le (by omega)⟩
    obtain ⟨v2, st2, x2, happ, hown, _, _⟩ := app_own (b := 72) hI (new := [.agg [.int .u8 k, .str s, .int .i64 n, y, .int .i64 ind, .bool fl]]) (by simp) hroom
    obtain ⟨st', v', us, hrun, hus, hfin⟩ := kids_loop ind fl hx ds (i + 1) v2 st2 _ hd2 hown (by rw [List.length_append]; simp; omega)
    refine ⟨st', v', .agg [.int .u8 k, .str s, .int .i64 n, y, .int .i64 ind, .bool fl] :: us, ?_, ⟨_, _, rfl, ⟨_, _, _, _, hu', rfl⟩, hus⟩, by simpa using hfin⟩
    rw [loopO_eq]
    simp only [g38_L1, unc_cons, asI_int, un0_nil, hx.len, ifB_decide, if_pos hi, hidx, loadS_ip, ht, bindO_ok, unA_agg, asS_str, hy.asOne, hy.fit1, appS_of happ, letV_eq, hw]
    exact hrun
theorem fitTs_todo {β : Type} : ∀ {l : List Todo} {ws : List AV}, All2 IsTodo l ws → ∀ K : List AV → Option β, fitTs true ws K = K ws
  | [], _, h, K => by rw [show _ = [] from h]; rfl
  | f :: l, _, h, K => by
    obtain ⟨v, vs, rfl, h1, h⟩ := h
    obtain ⟨k, s, n, kids, y, es, _, rfl, hy, _⟩ := h1.shape
    have ih := fun K => fitTs_todo (β := β) h K
    have e : ∀ K : AV → Option β, fitT true (.agg [.int .u8 k, .str s, .int .i64 n, y, .int .i64 f.2.1, .bool f.2.2]) K = K (.agg [.int .u8 k, .str s, .int .i64 n, y, .int .i64 f.2.1, .bool f.2.2]) := fun K => by
      simp only [fitT, unA_agg, onesS, asOne_int, asOne_str, asOne_bool, hy.asOne, fitC, fit1_int, fit1_str, fit1_bool, hy.fit1]
    simp only [fitTs, e, ih]
theorem sizes_todo : ∀ {l : List Todo} {ws : List AV}, All2 IsTodo l ws → sizesOk 6 ws = true
  | [], _, h => by rw [show _ = [] from h]; rfl
  | f :: l, _, h => by
    obtain ⟨v, vs, rfl, h1, h⟩ := h
    obtain ⟨k, s, n, kids, y, es, _, rfl, hy, _⟩ := h1.shape
    have := sizes_todo h
    simp only [sizesOk, List.all_cons] at this ⊢
    rw [this]; rfl
theorem kids_ok {f : Todo} {fv x : AV} {rest : List Todo} {ws : List AV} (hf : IsTodo f fv) (hx : IsSl 6 x ws) (hr : All2 IsTodo rest ws) (ind : Int) (fl : Bool) {kids : List Doc} (hk : ∃ k s n, f.1 = .mk k s n kids) (hb : ws.length + kids.length ≤ 1000000) :
    ∃ x' us, (orc vE).bare 38 [fv, .int .i64 ind, .bool fl, x] = some x' ∧ IsSl 6 x' us ∧ All2 IsTodo ((kids.map fun d => (d, ind, fl)) ++ rest) us := by
  obtain ⟨k, s, n, kids', y, es, e, rfl, hy, hk', _⟩ := hf.shape
  obtain ⟨k1, s1, n1, e1⟩ := hk
  rw [e] at e1
  cases e1
  have hl := hk'.all.len
  obtain ⟨st', v', us, hrun, hus, hfin⟩ := kids_loop ind fl hy kids 0 .nils (St.mk 0 0 Tr.leaf) [] (by simpa using hk') (Own.nils (Nat.le_refl _) 6 64) (by simp; omega)
  have hrun : loopO (g38_L1 ind fl y) ([.nils, .int .i64 0], St.mk 0 0 Tr.leaf) = _ := hrun
  have hul := hus.len
  rw [List.nil_append] at hfin
  have fin : ∃ st2 v2 x2, appO 6 72 64 v' ws st' = some (v2, st2, x2) ∧ Own st2 6 64 v2 (us ++ ws) := by
    by_cases hw : ws = []
    · subst hw
      rcases hfin.2.2 with ⟨rfl | rfl, h⟩ | rfl | ⟨j, rfl, h⟩
      · exact ⟨_, _, _, rfl, by simpa using hfin⟩
      · exact ⟨_, _, _, rfl, by simpa using hfin⟩
      · exact ⟨_, _, _, rfl, by simpa using hfin⟩
      · exact ⟨_, _, _, rfl, by simpa using hfin⟩
    · have hroom : roomOk (us.length + ws.length) ⟨.other, 6, 72, [], false, false⟩ = true := by
        simp only [roomOk, Bool.and_eq_true]
        simp only [List.length_map] at hul
        exact ⟨Nat.ble_eq_true_of_le (by omega), rfl, Nat.ble_eq_true_of_le (by omega)⟩
      obtain ⟨v2, st2, x2, h1, h2, _⟩ := app_own (b := 72) hfin hw hroom
      exact ⟨st2, v2, x2, h1, h2⟩
  obtain ⟨st2, v2, x2, happ, hown⟩ := fin
  obtain ⟨x', hx', hfz⟩ := frz_own (β := AV) hown
  have helem : ∀ (K : List AV → Option AV), elemsS x K = K ws := fun K => hx.elems K
  refine ⟨x', us ++ ws, bare_of rfl ((g38_eq _ _ _ _).trans ?_), hx', All2.append hus hr⟩
  simp only [g38, unA_agg, unc_cons, asI_int, asS_str, asB_bool, un0_nil, hy.asOne, hy.fit1, hrun, bindO_ok, helem, fitTs_todo hr, sizes_todo hr, chk_true, appS_of happ, oneOf, hfz]
end Go.Proofs.YteajphhelkdjnaaDoor.Vm
/- Layouts: whether a row fits: the reference. -/
set_option maxRecDepth 100000
set_option linter.unusedSimpArgs false
namespace Go.Proofs.YteajphhelkdjnaaDoor.Vm
open Go Go.VM Go.Proofs

def msr : List Todo → Nat
  | [] => 0
  | t :: l => cntD t.1 + msr l
mutual
def txtD : Doc → Nat
  | .mk _ s _ kids => s.length + txtDs kids
def txtDs : List Doc → Nat
  | [] => 0
  | d :: l => txtD d + txtDs l
end
def txt : List Todo → Nat
  | [] => 0
  | t :: l => txtD t.1 + txt l
def kidsT (ks : List Doc) (i : Int) (f : Bool) : List Todo := ks.map fun d => (d, i, f)
theorem msr_kids (ks : List Doc) (i : Int) (f : Bool) (l : List Todo) : msr (kidsT ks i f ++ l) = cntDs ks + msr l := by
  induction ks with
  | nil => simp [kidsT, cntDs]
  | cons d ks ih => simp only [kidsT, List.map_cons, List.cons_append, msr, cntDs] at ih ⊢; rw [ih]; omega
theorem txt_kids (ks : List Doc) (i : Int) (f : Bool) (l : List Todo) : txt (kidsT ks i f ++ l) = txtDs ks + txt l := by
  induction ks with
  | nil => simp [kidsT, txtDs]
  | cons d ks ih => simp only [kidsT, List.map_cons, List.cons_append, txt, txtDs] at ih ⊢; rw [ih]; omega
theorem len_msr : ∀ (l : List Todo), l.length ≤ msr l
  | [] => Nat.le_refl _
  | t :: l => by have := len_msr l; have := cnt_pos t.1; simp only [List.length_cons, msr]; omega
theorem len_cnts : ∀ (l : List Doc), l.length ≤ cntDs l
  | [] => Nat.le_refl _
  | t :: l => by have := len_cnts l; have := cnt_pos t; simp only [List.length_cons, cntDs]; omega
/-- Does a row fit? ('n': so many layouts at most.) -/
def fitF (w : Int) : Nat → List Todo → Int → Bool
  | 0, _, c => decide (c ≤ w)
  | _ + 1, [], c => decide (c ≤ w)
  | n + 1, (.mk k s _ kids, i, f) :: l, c =>
    if c > w then false
    else if k = 1 then fitF w n l (c + chars s)
    else if k = 2 ∨ k = 3 then (if f = false then true else fitF w n l (if k = 2 then c + 1 else c))
    else if k = 4 then true
    else fitF w n (kidsT kids i (f || k == 6) ++ l) c
theorem fit_loop (w : Int) (hw : -1000000000 ≤ w ∧ w ≤ 1000000000) : ∀ (n : Nat) (l : List Todo) (x : AV) (ws : List AV) (c : Int) (b : Bool) (st : St), msr l ≤ n → n ≤ 1000000 → IsSl 6 x ws → All2 IsTodo l ws → 0 ≤ c → c + txt l + msr l ≤ 1000000000 → st.ro ≤ st.h →
    ∃ k c' b' st', loopO (g39_L1 w) ([.int .i64 c, .bool b, x], st) = some (k, [.int .i64 c', .bool b'], st') ∧ (match k with | 0 => decide (c' ≤ w) | _ + 1 => b') = fitF w n l c
  | n, [], x, ws, c, b, st, hm, hn, hx, hl, h0, hc, hro => by
    have hl : ws = [] := hl
    subst hl
    refine ⟨0, c, b, st, ?_, by cases n <;> rfl⟩
    rw [loopO_eq]
    simp [g39_L1, hx.len]
  | 0, t :: l, x, ws, c, b, st, hm, hn, hx, hl, h0, hc, hro => by
    have := cnt_pos t.1
    simp only [msr] at hm
    omega
  | n + 1, (d, i, f) :: l, x, ws, c, b, st, hm, hn, hx, hl, h0, hc, hro => by
    obtain ⟨v, vs, rfl, ht, hl⟩ := hl
    obtain ⟨k, s, m, kids, y, es, e, rfl, hy, hk, r1, r2, r3⟩ := ht.shape
    dsimp only at e
    subst e
    have hlen := hl.len
    have hpos : ((vs.length + 1 : Nat) : Int) > 0 := by omega
    simp only [msr, cntD, txt, txtD] at hm hc
    by_cases hcw : c > w
    · refine ⟨1, c, false, st, ?_, by simp only [fitF, if_pos hcw]⟩
      rw [loopO_eq]
      simp only [g39_L1, unc_cons, asB_bool, asI_int, un0_nil, hx.len, ifB_decide, List.length_cons, if_pos hpos, if_pos hcw]
    have hidx : ∀ {β : Type} (K : AV → List Nat → Option β), idxA 6 x 0 st K = K (.ip (AV.agg [.int .u8 k, .str s, .int .i64 m, y, .int .i64 i, .bool f]).cells) [] := fun {_} K => hx.idx (k := 0) (v := .agg [.int .u8 k, .str s, .int .i64 m, y, .int .i64 i, .bool f]) rfl st K
    have ht6 : takeO 6 true [.int .u8 k, .str s, .int .i64 m, y, .int .i64 i, .bool f] = some (.agg [.int .u8 k, .str s, .int .i64 m, y, .int .i64 i, .bool f]) := rfl
    obtain ⟨st2, hg, hkeep, hh, fx, hst⟩ := local_var (O := orc vE) (st := st) (t := 64) (z := 6) (old := [.int .u8 0, .str [], .int .i64 0, .nils, .int .i64 0, .bool false]) (cs := [.int .u8 k, .str s, .int .i64 m, y, .int .i64 i, .bool f]) (.agg [.int .u8 k, .str s, .int .i64 m, y, .int .i64 i, .bool f]) rfl rfl hro
    have hro2 : st2.ro ≤ st2.h := by rw [hkeep.ro, hh]; omega
    obtain ⟨x', hx', hsl⟩ := hx.cut (lo := some 1) (hi := none) (l := 1) (m := vs.length + 1) (hiO_nat (k := 1) (by omega)) hiO_none
    have hdr : (((AV.agg [.int .u8 k, .str s, .int .i64 m, y, .int .i64 i, .bool f]) :: vs).take (vs.length + 1)).drop 1 = vs := by simp
    rw [hdr] at hx'
    have ld := fun {β : Type} (o : Nat) (K : AV → List Nat → Option β) => loadS_mp hg 1 false o K
    have ld6 := fun {β : Type} (K : AV → List Nat → Option β) => loadS_mp hg 6 true 0 K
    have hw1 : IntKind.wrap .i64 (c + 1) = c + 1 := wrap_i64 (by omega) (by omega)
    by_cases k1 : k = 1
    · have hch : ∀ {β : Type} (K : Kv β), callS (orc vE) 22 [.str s] st2 K = K (.int .i64 (chars s : Int)) st2 q0 := fun K => callS_bare st2 K rfl rfl rfl (chars_ref s r2)
      have hcl := chars_le s
      have hwc : IntKind.wrap .i64 (c + (chars s : Int)) = c + chars s := wrap_i64 (by omega) (by omega)
      obtain ⟨k', c', b', st', hrun, hres⟩ := fit_loop w hw n l x' vs (c + chars s) b st2 (by omega) (by omega) hx' hl (by omega) (by omega) hro2
      refine ⟨k', c', b', st', ?_, by rw [hres]; simp only [fitF, if_neg hcw, if_pos k1]⟩
      rw [loopO_inl (s' := ([.int .i64 (c + chars s), .bool b, x'], st2))]
      · exact hrun
      · subst k1
        simp only [g39_L1, unc_cons, asB_bool, asI_int, un0_nil, hx.len, ifB_decide, List.length_cons, if_pos hpos, if_neg hcw, hidx, AV.cells, loadS_ip, ht6, bindO_ok, unA_agg, asS_str, letSt_eq, hy.asOne, hst, hsl, ld, List.drop_zero, List.drop_succ_cons, takeO_one, ifB_beq, if_true, hch, letV_eq, hwc, onSum_inl]
    by_cases k2 : k = 2 ∨ k = 3
    · by_cases hf : f = false
      · refine ⟨1, c, true, st2, ?_, by simp only [fitF, if_neg hcw, if_neg k1, if_pos k2, if_pos hf]⟩
        rw [loopO_inr]
        subst hf
        rcases k2 with rfl | rfl
        · simp only [g39_L1, unc_cons, asB_bool, asI_int, un0_nil, hx.len, ifB_decide, List.length_cons, if_pos hpos, if_neg hcw, hidx, AV.cells, loadS_ip, ht6, bindO_ok, unA_agg, asS_str, letSt_eq, hy.asOne, hst, hsl, ld, List.drop_zero, List.drop_succ_cons, takeO_one, ifB_beq, onSum_inl, letV_eq, asB_bool, if_true, if_neg k1, onSum_inr, ifB_true, Bool.not_false, beq_self_eq_true]
        · simp only [g39_L1, unc_cons, asB_bool, asI_int, un0_nil, hx.len, ifB_decide, List.length_cons, if_pos hpos, if_neg hcw, hidx, AV.cells, loadS_ip, ht6, bindO_ok, unA_agg, asS_str, letSt_eq, hy.asOne, hst, hsl, ld, List.drop_zero, List.drop_succ_cons, takeO_one, ifB_beq, onSum_inl, letV_eq, asB_bool, if_true, if_neg k1, onSum_inr, ifB_true, Bool.not_false, beq_self_eq_true, show ¬ (3 : Int) = 2 from by omega, if_false]
      · have hf : f = true := by simpa using hf
        subst hf
        obtain ⟨k', c', b', st', hrun, hres⟩ := fit_loop w hw n l x' vs (if k = 2 then c + 1 else c) b st2 (by omega) (by omega) hx' hl (by split <;> omega) (by split <;> omega) hro2
        refine ⟨k', c', b', st', ?_, by rw [hres]; simp only [fitF, if_neg hcw, if_neg k1, if_pos k2, if_neg hf]⟩
        rw [loopO_inl (s' := ([.int .i64 (if k = 2 then c + 1 else c), .bool b, x'], st2))]
        · exact hrun
        · rcases k2 with rfl | rfl
          · simp only [g39_L1, unc_cons, asB_bool, asI_int, un0_nil, hx.len, ifB_decide, List.length_cons, if_pos hpos, if_neg hcw, hidx, AV.cells, loadS_ip, ht6, bindO_ok, unA_agg, asS_str, letSt_eq, hy.asOne, hst, hsl, ld, List.drop_zero, List.drop_succ_cons, takeO_one, ifB_beq, onSum_inl, letV_eq, asB_bool, if_true, if_neg k1, onSum_inr, ifB_true, Bool.not_true, ifB_false, beq_self_eq_true, hw1]
          · simp only [g39_L1, unc_cons, asB_bool, asI_int, un0_nil, hx.len, ifB_decide, List.length_cons, if_pos hpos, if_neg hcw, hidx, AV.cells, loadS_ip, ht6, bindO_ok, unA_agg, asS_str, letSt_eq, hy.asOne, hst, hsl, ld, List.drop_zero, List.drop_succ_cons, takeO_one, ifB_beq, onSum_inl, letV_eq, asB_bool, if_true, if_neg k1, onSum_inr, ifB_true, Bool.not_true, ifB_false, beq_self_eq_true, show ¬ (3 : Int) = 2 from by omega, if_false]
    have k2' : ¬ k = 2 ∧ ¬ k = 3 := by omega
    have e2 : (k == 2) = false := beq_false_of_ne k2'.1
    have e3 : (k == 3) = false := beq_false_of_ne k2'.2
    by_cases k4 : k = 4
    · refine ⟨1, c, true, st2, ?_, by simp only [fitF, if_neg hcw, if_neg k1, if_neg k2, if_pos k4]⟩
      rw [loopO_inr]
      simp only [g39_L1, unc_cons, asB_bool, asI_int, un0_nil, hx.len, ifB_decide, List.length_cons, if_pos hpos, if_neg hcw, hidx, AV.cells, loadS_ip, ht6, bindO_ok, unA_agg, asS_str, letSt_eq, hy.asOne, hst, hsl, ld, List.drop_zero, List.drop_succ_cons, takeO_one, ifB_beq, onSum_inl, letV_eq, asB_bool, if_neg k1, if_neg k2'.1, e3, ifB_false, if_pos k4, onSum_inr]
    have hlm := len_msr l
    have hkm := len_cnts kids
    obtain ⟨x2, us, hkids, hx2, hus⟩ := kids_ok ht hx' hl i (f || k == 6) (kids := kids) ⟨k, s, m, rfl⟩ (by omega)
    have hkids : ∀ {β : Type} (K : Kv β), callS (orc vE) 38 [.agg [.int .u8 k, .str s, .int .i64 m, y, .int .i64 i, .bool f], .int .i64 i, .bool (f || k == 6), x'] st2 K = K x2 st2 q0 := fun K => callS_bare st2 K rfl (by simp only [List.map_cons, List.map_nil, hx'.strip]; rfl) (by simp only [bares_cons, (fz_todo ht).2.1, hx'.bare]; rfl) hkids
    obtain ⟨k', c', b', st', hrun, hres⟩ := fit_loop w hw n (kidsT kids i (f || k == 6) ++ l) x2 us c b st2 (by rw [msr_kids]; omega) (by omega) hx2 hus h0 (by rw [txt_kids, msr_kids]; omega) hro2
    refine ⟨k', c', b', st', ?_, by rw [hres]; simp only [fitF, if_neg hcw, if_neg k1, if_neg k2, if_neg k4]⟩
    rw [loopO_inl (s' := ([.int .i64 c, .bool b, x2], st2))]
    · exact hrun
    · by_cases k6 : k = 6
      · subst k6
        simp only [beq_self_eq_true, Bool.or_true] at hkids
        simp only [g39_L1, unc_cons, asB_bool, asI_int, un0_nil, hx.len, ifB_decide, List.length_cons, if_pos hpos, if_neg hcw, hidx, AV.cells, loadS_ip, ht6, bindO_ok, unA_agg, asS_str, letSt_eq, hy.asOne, hst, hsl, ld, List.drop_zero, List.drop_succ_cons, takeO_one, ifB_beq, onSum_inl, letV_eq, asB_bool, if_neg k1, if_neg k2'.1, e3, ifB_false, if_neg k4, onSum_inr, ld6, ht6, if_true, hkids]
      · have e6 : (k == 6) = false := beq_false_of_ne k6
        rw [e6, Bool.or_false] at hkids
        simp only [g39_L1, unc_cons, asB_bool, asI_int, un0_nil, hx.len, ifB_decide, List.length_cons, if_pos hpos, if_neg hcw, hidx, AV.cells, loadS_ip, ht6, bindO_ok, unA_agg, asS_str, letSt_eq, hy.asOne, hst, hsl, ld, List.drop_zero, List.drop_succ_cons, takeO_one, ifB_beq, onSum_inl, letV_eq, asB_bool, if_neg k1, if_neg k2'.1, e3, ifB_false, if_neg k4, onSum_inr, ld6, ht6, if_neg k6, hkids]
theorem fit_ref {l : List Todo} {x : AV} {ws : List AV} {c w : Int} (hw : -1000000000 ≤ w ∧ w ≤ 1000000000) (hm : msr l ≤ 1000000) (hx : IsSl 6 x ws) (hl : All2 IsTodo l ws) (h0 : 0 ≤ c) (hc : c + txt l + msr l ≤ 1000000000) :
    (orc vE).bare 39 [x, .int .i64 c, .int .i64 w] = some (.bool (fitF w (msr l) l c)) := by
  obtain ⟨k, c', b', st', hrun, hres⟩ := fit_loop w hw (msr l) l x ws c false (St.mk 0 0 Tr.leaf) (Nat.le_refl _) hm hx hl h0 hc (Nat.le_refl _)
  refine bare_of rfl ((g39_eq _ _ _).trans ?_)
  cases k with
  | zero => simp only [g39, asI_int, hrun, bindO_ok, unc_cons, asB_bool, un0_nil, sel2_zero]; rw [← hres]
  | succ k => simp only [g39, asI_int, hrun, bindO_ok, unc_cons, asB_bool, un0_nil, sel2_succ]; rw [← hres]
end Go.Proofs.YteajphhelkdjnaaDoor.Vm
/- Layouts: laid out by the reference. -/
set_option maxRecDepth 100000
set_option linter.unusedSimpArgs false
namespace Go.Proofs.YteajphhelkdjnaaDoor.Vm
open Go Go.VM Go.Proofs

/-- A row, laid out from a column on. -/
def layF (w : Int) : Nat → List Todo → Int → List UInt8
  | 0, _, _ => []
  | _ + 1, [], _ => []
  | n + 1, (.mk k s m kids, i, f) :: l, c =>
    if k = 1 then s ++ layF w n l (c + chars s)
    else if k = 5 then layF w n (kidsT kids (i + m) f ++ l) c
    else if k = 6 then
      let flat := f || (!hardD (.mk k s m kids) && fitF w (msr (kidsT kids i true ++ l)) (kidsT kids i true ++ l) c)
      layF w n (kidsT kids i flat ++ l) c
    else if k = 7 then layF w n (kidsT kids i f ++ l) c
    else if f = true ∧ k ≠ 4 then (if k = 2 then 32 :: layF w n l (c + 1) else layF w n l c)
    else 10 :: (List.replicate i.toNat 32 ++ layF w n l i)
/-- May a layout be? (Its numbers.) -/
def nokD (k m : Int) : Bool := (k == 1 || k == 2 || k == 3 || k == 4 || k == 6 || k == 7) && m == 0 || k == 5 && decide (0 ≤ m) && decide (m ≤ 200)
mutual
def numsD : Doc → Bool
  | .mk k _ m kids => nokD k m && numsDs kids
def numsDs : List Doc → Bool
  | [] => true
  | d :: l => numsD d && numsDs l
end
def numsT : List Todo → Bool
  | [] => true
  | t :: l => numsD t.1 && numsT l
theorem numsT_kids {ks : List Doc} {i : Int} {f : Bool} {l : List Todo} (h1 : numsDs ks = true) (h2 : numsT l = true) : numsT (kidsT ks i f ++ l) = true := by
  induction ks with
  | nil => simpa [kidsT] using h2
  | cons d ks ih =>
    simp only [numsDs, Bool.and_eq_true] at h1
    have := ih h1.2
    simp only [kidsT, List.map_cons, List.cons_append, numsT, Bool.and_eq_true] at this ⊢
    exact ⟨h1.1, this⟩
/-- Indents within a bound. -/
def Ind (I : Int) (l : List Todo) : Prop := ∀ t ∈ l, 0 ≤ t.2.1 ∧ t.2.1 ≤ I
theorem Ind_kids {I J i : Int} {ks : List Doc} {f : Bool} {l : List Todo} (h : Ind I l) (hi : 0 ≤ i) (hi2 : i ≤ J) (hJ : I ≤ J) : Ind J (kidsT ks i f ++ l) := by
  intro t ht
  rcases List.mem_append.1 ht with ht | ht
  · obtain ⟨d, _, rfl⟩ := List.mem_map.1 ht
    exact ⟨hi, hi2⟩
  · have := h t ht; omega
theorem spaces_loop {h : Nat} {c1 : Car} {cs : List AV} {ind : Nat} (h0 : St.h c1.2 = h) (h4 : cs[4]? = some (.int .i64 (ind : Int))) (hi : ind ≤ 1000000000) : ∀ (m j : Nat) (out : List UInt8) (st : St) (t : TypeId), st.get h = .ok (.cells t cs) → j + m = ind → out.length + m ≤ 2000000000000000000 →
    loopO (g24_L1 c1) ([.str out, .int .i64 (j : Int)], st) = some (0, [.str (out ++ List.replicate m 32)], st)
  | m, j, out, st, t, hg, hj, ho => by
    have hd : ∃ r, cs.drop 4 = .int .i64 (ind : Int) :: r := by
      obtain ⟨hlt, he⟩ := List.getElem?_eq_some_iff.1 h4
      exact ⟨cs.drop 5, by rw [List.drop_eq_getElem_cons hlt, he]⟩
    obtain ⟨r, hd⟩ := hd
    have ld : ∀ {β : Type} (K : AV → List Nat → Option β), loadS 1 false (.mp (St.h c1.2) 4) st K = K (.int .i64 (ind : Int)) [h] := fun K => by
      rw [h0, loadS_mp hg, hd]; rfl
    cases m with
    | zero =>
      have hn : ¬ (j : Int) < (ind : Int) := by omega
      rw [loopO_inr]
      simp only [g24_L1, unc_cons, asS_str, asI_int, un0_nil, ld, ifB_decide, if_neg hn, List.replicate_zero, List.append_nil]
    | succ m =>
      have hn : (j : Int) < (ind : Int) := by omega
      have hw : IntKind.wrap .i64 ((j : Int) + 1) = ((j + 1 : Nat) : Int) := wrap_i64 (by omega) (by omega)
      have hb : Nat.ble (out.length + 1) 9223372036854775807 = true := Nat.ble_eq_true_of_le (by omega)
      have ih := spaces_loop h0 h4 hi m (j + 1) (out ++ [32]) st t hg (by omega) (by simp; omega)
      rw [loopO_inl (s' := ([.str (out ++ [32]), .int .i64 ((j + 1 : Nat) : Int)], st))]
      · rw [ih, List.append_assoc]; rfl
      · simp only [g24_L1, unc_cons, asS_str, asI_int, un0_nil, ld, ifB_decide, if_pos hn, hb, chk_true, letV_eq, hw]
theorem lay_loop (w : Int) (hw : -1000000000 ≤ w ∧ w ≤ 1000000000) : ∀ (n : Nat) (l : List Todo) (x : AV) (ws : List AV) (c I : Int) (out : List UInt8) (st : St), msr l ≤ n → n ≤ 1000000 → IsSl 6 x ws → All2 IsTodo l ws → numsT l = true → 0 ≤ c → c + txt l + msr l ≤ 1000000000 → 0 ≤ I → Ind I l → I + 200 * msr l + txt l ≤ 500000000 →
    out.length + txt l + 1000000000 * msr l ≤ 1000000000000000000 → st.ro ≤ st.h →
    ∃ st', loopO (g24_L2 w) ([x, .str out, .int .i64 c], st) = some (0, [.str (out ++ layF w n l c)], st')
  | n, [], x, ws, c, I, out, st, hm, hn, hx, hl, hd, h0, hc, hI0, hI, hI2, ho, hro => by
    have hl : ws = [] := hl
    subst hl
    have e : layF w n [] c = [] := by cases n <;> rfl
    refine ⟨st, ?_⟩
    rw [loopO_inr, e, List.append_nil]
    simp [g24_L2, hx.len]
  | 0, t :: l, x, ws, c, I, out, st, hm, hn, hx, hl, hd, h0, hc, hI0, hI, hI2, ho, hro => by
    have := cnt_pos t.1
    simp only [msr] at hm
    omega
  | n + 1, (d, i, f) :: l, x, ws, c, I, out, st, hm, hn, hx, hl, hd, h0, hc, hI0, hI, hI2, ho, hro => by
    obtain ⟨v, vs, rfl, ht, hl⟩ := hl
    obtain ⟨k, s, m, kids, y, es, e, rfl, hy, hk, r1, r2, r3⟩ := ht.shape
    dsimp only at e
    subst e
    have hlen := hl.len
    have hpos : ((vs.length + 1 : Nat) : Int) > 0 := by omega
    simp only [numsT, numsD, Bool.and_eq_true] at hd
    obtain ⟨⟨hnok, hks⟩, hls⟩ := hd
    simp only [nokD, Bool.or_eq_true, Bool.and_eq_true, beq_iff_eq, decide_eq_true_eq] at hnok
    have hIi := hI _ (List.mem_cons_self)
    dsimp only at hIi
    have hIl : Ind I l := fun t ht => hI t (List.mem_cons_of_mem _ ht)
    simp only [msr, cntD, txt, txtD] at hm hc hI2 ho
    have hidx : ∀ {β : Type} (K : AV → List Nat → Option β), idxA 6 x 0 st K = K (.ip (AV.agg [.int .u8 k, .str s, .int .i64 m, y, .int .i64 i, .bool f]).cells) [] := fun {_} K => hx.idx (k := 0) (v := .agg [.int .u8 k, .str s, .int .i64 m, y, .int .i64 i, .bool f]) rfl st K
    have ht6 : takeO 6 true [.int .u8 k, .str s, .int .i64 m, y, .int .i64 i, .bool f] = some (.agg [.int .u8 k, .str s, .int .i64 m, y, .int .i64 i, .bool f]) := rfl
    have ht4 : takeO 4 true [.int .u8 k, .str s, .int .i64 m, y, .int .i64 i, .bool f] = some (.agg [.int .u8 k, .str s, .int .i64 m, y]) := rfl
    obtain ⟨st2, hg, hkeep, hh, fx, hst⟩ := local_var (O := orc vE) (st := st) (t := 64) (z := 6) (old := [.int .u8 0, .str [], .int .i64 0, .nils, .int .i64 0, .bool false]) (cs := [.int .u8 k, .str s, .int .i64 m, y, .int .i64 i, .bool f]) (.agg [.int .u8 k, .str s, .int .i64 m, y, .int .i64 i, .bool f]) rfl rfl hro
    have hro2 : st2.ro ≤ st2.h := by rw [hkeep.ro, hh]; omega
    obtain ⟨x', hx', hsl⟩ := hx.cut (lo := some 1) (hi := none) (l := 1) (m := vs.length + 1) (hiO_nat (k := 1) (by omega)) hiO_none
    have hdr : (((AV.agg [.int .u8 k, .str s, .int .i64 m, y, .int .i64 i, .bool f]) :: vs).take (vs.length + 1)).drop 1 = vs := by simp
    rw [hdr] at hx'
    have ld := fun {β : Type} (o : Nat) (K : AV → List Nat → Option β) => loadS_mp hg 1 false o K
    have ld6 := fun {β : Type} (K : AV → List Nat → Option β) => loadS_mp hg 6 true 0 K
    have ld4 := fun {β : Type} (K : AV → List Nat → Option β) => loadS_mp hg 4 true 0 K
    have hw1 : IntKind.wrap .i64 (c + 1) = c + 1 := wrap_i64 (by omega) (by omega)
    have hlm := len_msr l
    have hkm := len_cnts kids
    have kidsC : ∀ (j : Int) (g : Bool), ∃ x2 us, IsSl 6 x2 us ∧ All2 IsTodo (kidsT kids j g ++ l) us ∧ ∀ {β : Type} (K : Kv β), callS (orc vE) 38 [.agg [.int .u8 k, .str s, .int .i64 m, y, .int .i64 i, .bool f], .int .i64 j, .bool g, x'] st2 K = K x2 st2 q0 := fun j g => by
      obtain ⟨x2, us, hkids, hx2, hus⟩ := kids_ok ht hx' hl j g (kids := kids) ⟨k, s, m, rfl⟩ (by omega)
      exact ⟨x2, us, hx2, hus, fun K => callS_bare st2 K rfl (by simp only [List.map_cons, List.map_nil, hx'.strip]; rfl) (by simp only [bares_cons, (fz_todo ht).2.1, hx'.bare]; rfl) hkids⟩
    by_cases k1 : k = 1
    · have hch : ∀ {β : Type} (K : Kv β), callS (orc vE) 22 [.str s] st2 K = K (.int .i64 (chars s : Int)) st2 q0 := fun K => callS_bare st2 K rfl rfl rfl (chars_ref s r2)
      have hcl := chars_le s
      have hwc : IntKind.wrap .i64 (c + (chars s : Int)) = c + chars s := wrap_i64 (by omega) (by omega)
      have hb : Nat.ble (out.length + s.length) 9223372036854775807 = true := Nat.ble_eq_true_of_le (by omega)
      obtain ⟨st', hrun⟩ := lay_loop w hw n l x' vs (c + chars s) I (out ++ s) st2 (by omega) (by omega) hx' hl hls (by omega) (by omega) hI0 hIl (by omega) (by rw [List.length_append]; omega) hro2
      refine ⟨st', ?_⟩
      rw [loopO_inl (s' := ([x', .str (out ++ s), .int .i64 (c + chars s)], st2)), hrun]
      · simp only [layF, if_pos k1, List.append_assoc]
      · simp only [g24_L2, unc_cons, asB_bool, asI_int, un0_nil, hx.len, ifB_decide, List.length_cons, if_pos hpos, hidx, AV.cells, loadS_ip, ht6, bindO_ok, unA_agg, asS_str, letSt_eq, hy.asOne, hst, hsl, ld, List.drop_zero, List.drop_succ_cons, takeO_one, ifB_beq, onSum_inl, onSum_inr, letV_eq, asB_bool, if_pos k1, hch, hb, chk_true, hwc]
    by_cases k5 : k = 5
    · have hm5 : 0 ≤ m ∧ m ≤ 200 := by omega
      obtain ⟨x2, us, hx2, hus, hkids⟩ := kidsC (i + m) f
      have hwi : IntKind.wrap .i64 (i + m) = i + m := wrap_i64 (by omega) (by omega)
      obtain ⟨st', hrun⟩ := lay_loop w hw n (kidsT kids (i + m) f ++ l) x2 us c (I + 200) out st2 (by rw [msr_kids]; omega) (by omega) hx2 hus (numsT_kids hks hls) h0 (by rw [txt_kids, msr_kids]; omega) (by omega) (Ind_kids hIl (by omega) (by omega) (by omega)) (by rw [txt_kids, msr_kids]; omega) (by rw [txt_kids, msr_kids]; omega) hro2
      refine ⟨st', ?_⟩
      rw [loopO_inl (s' := ([x2, .str out, .int .i64 c], st2)), hrun]
      · simp only [layF, if_neg k1, if_pos k5]
      · simp only [g24_L2, unc_cons, asB_bool, asI_int, un0_nil, hx.len, ifB_decide, List.length_cons, if_pos hpos, hidx, AV.cells, loadS_ip, ht6, bindO_ok, unA_agg, asS_str, letSt_eq, hy.asOne, hst, hsl, ld, List.drop_zero, List.drop_succ_cons, takeO_one, ifB_beq, onSum_inl, onSum_inr, letV_eq, asB_bool, if_neg k1, if_pos k5, ld6, ht6, hwi, hkids]
    by_cases k6 : k = 6
    · have hdoc : IsDoc (.mk k s m kids) (.agg [.int .u8 k, .str s, .int .i64 m, y]) := ⟨y, es, rfl, r1, r2, r3, hy, hk⟩
      have hhard : ∀ {β : Type} (K : Kv β), callS (orc vE) 26 [.agg [.int .u8 k, .str s, .int .i64 m, y]] st2 K = K (.bool (hardD (.mk k s m kids))) st2 q0 := fun K => call1 st2 rfl hdoc.bare (hard_ref _ _ hdoc) K
      obtain ⟨x3, us3, hx3, hus3, hkids3⟩ := kidsC i true
      have hmk := msr_kids kids i true l
      have htk := txt_kids kids i true l
      have hfit : ∀ {β : Type} (K : Kv β), callS (orc vE) 39 [x3, .int .i64 c, .int .i64 w] st2 K = K (.bool (fitF w (msr (kidsT kids i true ++ l)) (kidsT kids i true ++ l) c)) st2 q0 := fun K => callS_bare st2 K rfl (by simp only [List.map_cons, List.map_nil, hx3.strip]; rfl) (by simp only [bares_cons, hx3.bare]; rfl)
        (fit_ref hw (by omega) hx3 hus3 h0 (by omega))
      have hflat : ∀ {β : Type} (K : Car → Option β), bindO (ifB f (some ([AV.bool true], st2)) (ifB (!hardD (.mk k s m kids)) (some ([AV.bool (fitF w (msr (kidsT kids i true ++ l)) (kidsT kids i true ++ l) c)], st2)) (some ([AV.bool false], st2)))) K = K ([AV.bool (f || (!hardD (.mk k s m kids) && fitF w (msr (kidsT kids i true ++ l)) (kidsT kids i true ++ l) c))], st2) := fun K => by
        cases f <;> cases hardD (.mk k s m kids) <;> rfl
      obtain ⟨x2, us, hx2, hus, hkids⟩ := kidsC i (f || (!hardD (.mk k s m kids) && fitF w (msr (kidsT kids i true ++ l)) (kidsT kids i true ++ l) c))
      obtain ⟨st', hrun⟩ := lay_loop w hw n (kidsT kids i (f || (!hardD (.mk k s m kids) && fitF w (msr (kidsT kids i true ++ l)) (kidsT kids i true ++ l) c)) ++ l) x2 us c I out st2 (by rw [msr_kids]; omega) (by omega) hx2 hus (numsT_kids hks hls) h0 (by rw [txt_kids, msr_kids]; omega) hI0 (Ind_kids hIl (by omega) (by omega) (by omega)) (by rw [txt_kids, msr_kids]; omega) (by rw [txt_kids, msr_kids]; omega) hro2
      refine ⟨st', ?_⟩
      rw [loopO_inl (s' := ([x2, .str out, .int .i64 c], st2)), hrun]
      · simp only [layF, if_neg k1, if_neg k5, if_pos k6]
      · simp only [g24_L2, unc_cons, asB_bool, asI_int, un0_nil, hx.len, ifB_decide, List.length_cons, if_pos hpos, hidx, AV.cells, loadS_ip, ht6, bindO_ok, unA_agg, asS_str, letSt_eq, hy.asOne, hst, hsl, ld, List.drop_zero, List.drop_succ_cons, takeO_one, ifB_beq, onSum_inl, onSum_inr, letV_eq, asB_bool, if_neg k1, if_neg k5, if_pos k6, ld4, ld6, ht6, ht4, hhard, hkids3, hfit, hflat, hkids]
    by_cases k7 : k = 7
    · obtain ⟨x2, us, hx2, hus, hkids⟩ := kidsC i f
      obtain ⟨st', hrun⟩ := lay_loop w hw n (kidsT kids i f ++ l) x2 us c I out st2 (by rw [msr_kids]; omega) (by omega) hx2 hus (numsT_kids hks hls) h0 (by rw [txt_kids, msr_kids]; omega) hI0 (Ind_kids hIl (by omega) (by omega) (by omega)) (by rw [txt_kids, msr_kids]; omega) (by rw [txt_kids, msr_kids]; omega) hro2
      refine ⟨st', ?_⟩
      rw [loopO_inl (s' := ([x2, .str out, .int .i64 c], st2)), hrun]
      · simp only [layF, if_neg k1, if_neg k5, if_neg k6, if_pos k7]
      · simp only [g24_L2, unc_cons, asB_bool, asI_int, un0_nil, hx.len, ifB_decide, List.length_cons, if_pos hpos, hidx, AV.cells, loadS_ip, ht6, bindO_ok, unA_agg, asS_str, letSt_eq, hy.asOne, hst, hsl, ld, List.drop_zero, List.drop_succ_cons, takeO_one, ifB_beq, onSum_inl, onSum_inr, letV_eq, asB_bool, if_neg k1, if_neg k5, if_neg k6, if_pos k7, ld6, ht6, hkids]
    have hb : Nat.ble (out.length + 1) 9223372036854775807 = true := Nat.ble_eq_true_of_le (by omega)
    by_cases hf : f = true ∧ k ≠ 4
    · obtain ⟨rfl, k4⟩ := hf
      by_cases k2 : k = 2
      · obtain ⟨st', hrun⟩ := lay_loop w hw n l x' vs (c + 1) I (out ++ [32]) st2 (by omega) (by omega) hx' hl hls (by omega) (by omega) hI0 hIl (by omega) (by rw [List.length_append]; simp only [List.length_singleton]; omega) hro2
        refine ⟨st', ?_⟩
        rw [loopO_inl (s' := ([x', .str (out ++ [32]), .int .i64 (c + 1)], st2)), hrun]
        · simp only [layF, if_neg k1, if_neg k5, if_neg k6, if_neg k7, if_pos k2, if_pos (show True ∧ k ≠ 4 from ⟨trivial, k4⟩), List.append_assoc]; rfl
        · simp only [g24_L2, unc_cons, asB_bool, asI_int, un0_nil, hx.len, ifB_decide, List.length_cons, if_pos hpos, hidx, AV.cells, loadS_ip, ht6, bindO_ok, unA_agg, asS_str, letSt_eq, hy.asOne, hst, hsl, ld, List.drop_zero, List.drop_succ_cons, takeO_one, ifB_beq, onSum_inl, onSum_inr, letV_eq, asB_bool, if_neg k1, if_neg k5, if_neg k6, if_neg k7, ifB_true, bne_iff_ne, ne_eq, k4, not_false_eq_true, if_pos k2, hb, chk_true, hw1, show (k != 4) = true from by simp [k4]]
      · obtain ⟨st', hrun⟩ := lay_loop w hw n l x' vs c I out st2 (by omega) (by omega) hx' hl hls (by omega) (by omega) hI0 hIl (by omega) (by omega) hro2
        refine ⟨st', ?_⟩
        rw [loopO_inl (s' := ([x', .str out, .int .i64 c], st2)), hrun]
        · simp only [layF, if_neg k1, if_neg k5, if_neg k6, if_neg k7, if_neg k2, if_pos (show True ∧ k ≠ 4 from ⟨trivial, k4⟩)]
        · simp only [g24_L2, unc_cons, asB_bool, asI_int, un0_nil, hx.len, ifB_decide, List.length_cons, if_pos hpos, hidx, AV.cells, loadS_ip, ht6, bindO_ok, unA_agg, asS_str, letSt_eq, hy.asOne, hst, hsl, ld, List.drop_zero, List.drop_succ_cons, takeO_one, ifB_beq, onSum_inl, onSum_inr, letV_eq, asB_bool, if_neg k1, if_neg k5, if_neg k6, if_neg k7, ifB_true, show (k != 4) = true from by simp [k4], if_neg k2]
    · obtain ⟨ind, rfl⟩ := Int.eq_ofNat_of_zero_le hIi.1
      have hsp := spaces_loop (c1 := ([x, .str out, .int .i64 c], st)) (h := st.h) (cs := [.int .u8 k, .str s, .int .i64 m, y, .int .i64 (ind : Int), .bool f]) (ind := ind) rfl rfl (by omega) ind 0 (out ++ [10]) st2 64 hg (by omega) (by rw [List.length_append]; simp only [List.length_singleton]; omega)
      have hsp : loopO (g24_L1 ([x, .str out, .int .i64 c], st)) ([.str (out ++ [10]), .int .i64 0], st2) = _ := hsp
      obtain ⟨st', hrun⟩ := lay_loop w hw n l x' vs (ind : Int) I (out ++ [10] ++ List.replicate ind 32) st2 (by omega) (by omega) hx' hl hls (by omega) (by omega) hI0 hIl (by omega) (by simp only [List.length_append, List.length_singleton, List.length_replicate]; omega) hro2
      refine ⟨st', ?_⟩
      rw [loopO_inl (s' := ([x', .str (out ++ [10] ++ List.replicate ind 32), .int .i64 (ind : Int)], st2)), hrun]
      · simp only [layF, if_neg k1, if_neg k5, if_neg k6, if_neg k7, if_neg hf, List.append_assoc]; rfl
      · have hff : ∀ {β : Type} (K : Car → Option β), bindO (ifB f (some ([AV.bool (k != 4)], st2)) (some ([AV.bool false], st2))) K = K ([AV.bool false], st2) := fun K => by
          cases f with
          | false => rfl
          | true =>
            have : k = 4 := by simpa using hf
            subst this; rfl
        simp only [g24_L2, unc_cons, asB_bool, asI_int, un0_nil, hx.len, ifB_decide, List.length_cons, if_pos hpos, hidx, AV.cells, loadS_ip, ht6, bindO_ok, unA_agg, asS_str, letSt_eq, hy.asOne, hst, hsl, ld, List.drop_zero, List.drop_succ_cons, takeO_one, ifB_beq, onSum_inl, onSum_inr, letV_eq, asB_bool, if_neg k1, if_neg k5, if_neg k6, if_neg k7, hff, ifB_false, hb, chk_true, hsp]
theorem lay_ref {l : List Todo} {x : AV} {ws : List AV} {w I : Int} (hw : -1000000000 ≤ w ∧ w ≤ 1000000000) (hm : msr l ≤ 1000000) (hx : IsSl 6 x ws) (hl : All2 IsTodo l ws) (hn : numsT l = true) (hI0 : 0 ≤ I) (hI : Ind I l) (hI2 : I + 200 * msr l + txt l ≤ 500000000) :
    (orc vE).bare 24 [x, .int .i64 w] = some (.str (layF w (msr l) l 0)) := by
  obtain ⟨st', hrun⟩ := lay_loop w hw (msr l) l x ws 0 I [] (St.mk 0 0 Tr.leaf) (Nat.le_refl _) hm hx hl hn (by omega) (by omega) hI0 hI hI2 (by simp only [List.length_nil]; omega) (Nat.le_refl _)
  refine bare_of rfl ((g24_eq _ _).trans ?_)
  simp only [g24, asI_int, hrun, bindO_ok, unc_cons, asS_str, un0_nil, List.nil_append]
end Go.Proofs.YteajphhelkdjnaaDoor.Vm
/- Layouts: whether a row fits: the program. -/
set_option maxRecDepth 100000
set_option linter.unusedSimpArgs false
namespace Go.Proofs.YteajphhelkdjnaaDoor.Vm
open Go Go.VM Go.Proofs

/-- May a layout be, but for its Kids? -/
def okD (k : Int) (s : List UInt8) (m : Int) (none : Bool) : Bool :=
  if k = 1 then m == 0 && none && validS s && !(s.any fun b => b == 10) && !(s.any fun b => b == 13)
  else if k = 2 ∨ k = 3 ∨ k = 4 then m == 0 && none && s == []
  else if k = 5 then decide (0 ≤ m) && decide (m ≤ 200) && s == []
  else if k = 6 ∨ k = 7 then m == 0 && s == []
  else false
mutual
def mayD : Doc → Bool
  | .mk k s m kids => okD k s m kids.isEmpty && mayDs kids
def mayDs : List Doc → Bool
  | [] => true
  | d :: l => mayD d && mayDs l
end
def mayT : List Todo → Bool
  | [] => true
  | t :: l => mayD t.1 && mayT l
theorem okD_nok {k : Int} {s : List UInt8} {m : Int} {b : Bool} (h : okD k s m b = true) : nokD k m = true := by
  unfold okD at h
  unfold nokD
  simp only [Bool.or_eq_true, Bool.and_eq_true, beq_iff_eq, decide_eq_true_eq]
  split at h
  · simp only [Bool.and_eq_true, beq_iff_eq] at h; omega
  · split at h
    · simp only [Bool.and_eq_true, beq_iff_eq] at h; omega
    · split at h
      · simp only [Bool.and_eq_true, decide_eq_true_eq] at h; omega
      · split at h
        · simp only [Bool.and_eq_true, beq_iff_eq] at h; omega
        · cases h
mutual
theorem may_nums : ∀ (d : Doc), mayD d = true → numsD d = true
  | .mk k s m kids, h => by
    simp only [mayD, Bool.and_eq_true] at h
    simp only [numsD, okD_nok h.1, may_numss kids h.2, Bool.and_self]
theorem may_numss : ∀ (l : List Doc), mayDs l = true → numsDs l = true
  | [], _ => rfl
  | d :: l, h => by
    simp only [mayDs, Bool.and_eq_true] at h
    simp only [numsDs, may_nums d h.1, may_numss l h.2, Bool.and_self]
end
theorem mayT_nums : ∀ (l : List Todo), mayT l = true → numsT l = true
  | [], _ => rfl
  | t :: l, h => by
    simp only [mayT, Bool.and_eq_true] at h
    simp only [numsT, may_nums _ h.1, mayT_nums l h.2, Bool.and_self]
theorem mayT_kids {ks : List Doc} {i : Int} {f : Bool} {l : List Todo} (h1 : mayDs ks = true) (h2 : mayT l = true) : mayT (kidsT ks i f ++ l) = true := by
  induction ks with
  | nil => simpa [kidsT] using h2
  | cons d ks ih =>
    simp only [mayDs, Bool.and_eq_true] at h1
    have := ih h1.2
    simp only [kidsT, List.map_cons, List.cons_append, mayT, Bool.and_eq_true] at this ⊢
    exact ⟨h1.1, this⟩
theorem All2.snoc {α : Type} {R : α → AV → Prop} {l : List α} {a : α} {ws : List AV} (h : All2 R (l ++ [a]) ws) : ∃ vs v, ws = vs ++ [v] ∧ All2 R l vs ∧ R a v := by
  induction l generalizing ws with
  | nil =>
    obtain ⟨v, vs, rfl, h1, h⟩ := h
    have h : vs = [] := h
    subst h
    exact ⟨[], v, rfl, rfl, h1⟩
  | cons b l ih =>
    obtain ⟨v, vs, rfl, h1, h⟩ := h
    obtain ⟨us, u, rfl, h2, h3⟩ := ih h
    exact ⟨v :: us, u, rfl, ⟨v, us, rfl, h1, h2⟩, h3⟩
theorem rev_kids (ks : List Doc) (i : Int) (f : Bool) (l : List Todo) : (kidsT ks i f ++ l).reverse = l.reverse ++ ks.reverse.map fun d => (d, i, f) := by
  simp [kidsT, List.map_reverse]
theorem call_pop {f : Todo} {w x : AV} {ws : List AV} (hx : IsSn 6 x (ws ++ [w])) (hf : IsTodo f w) : ∃ x', IsSn 6 x' ws ∧ ∀ {β : Type} (st : St) (K : Kv β), callS (orc vE) 34 [x] st K = K (.tup [w, x']) st q0 := by
  obtain ⟨x', h1, h2⟩ := pop_ok hx hf
  exact ⟨x', h2, fun st K => callS_bare st K rfl (by simp only [List.map_cons, List.map_nil, hx.sl.strip]) (by simp only [bares_cons, hx.sl.bare]; rfl) h1⟩
theorem call_push {f : Todo} {fv x : AV} {ws : List AV} (hx : IsSn 6 x ws) (hf : IsTodo f fv) (ind : Int) (fl : Bool) (kids : List Doc) (hk : ∃ k s n, f.1 = .mk k s n kids) (hb : ws.length + kids.length ≤ 1000000) :
    ∃ x' us, IsSn 6 x' (ws ++ us) ∧ All2 IsTodo (kids.reverse.map fun d => (d, ind, fl)) us ∧ ∀ {β : Type} (st : St) (K : Kv β), callS (orc vE) 35 [x, fv, .int .i64 ind, .bool fl] st K = K x' st q0 := by
  obtain ⟨x', us, h1, h2, h3⟩ := push_ok hx hf ind fl kids hk hb
  exact ⟨x', us, h2, h3, fun st K => callS_bare st K rfl (by simp only [List.map_cons, List.map_nil, hx.sl.strip, (fz_todo hf).2.2]; rfl) (by simp only [bares_cons, hx.sl.bare, (fz_todo hf).2.1]; rfl) h1⟩
theorem fits_loop (w : Int) (hw : -1000000000 ≤ w ∧ w ≤ 1000000000) {p : Nat} {a0 a1 a2 : AV} : ∀ (n : Nat) (l : List Todo) (x : AV) (ws : List AV) (c : Int) (b : Bool) (st : St), msr l ≤ n → n ≤ 1000000 → IsSn 6 x ws → All2 IsTodo l.reverse ws → mayT l = true → 0 ≤ c → c + txt l + msr l ≤ 1000000000 → st.ro ≤ st.h →
    st.get p = .ok (.cells 56 [a0, a1, a2, .int .i64 w]) →
    ∃ k c' b' st', loopO (w36_L1 (.mp p 0)) ([.bool b, .int .i64 c, x], st) = some (k, [.bool b', .int .i64 c'], st') ∧ (match k with | 0 => decide (c' ≤ w) | _ + 1 => b') = fitF w n l c ∧ Keeps st st' (fun _ => False)
  | n, [], x, ws, c, b, st, hm, hn, hx, hl, hd, h0, hc, hro, hp => by
    have hl : ws = [] := hl
    subst hl
    refine ⟨0, c, b, st, ?_, by cases n <;> rfl, Keeps.refl _ _⟩
    rw [loopO_inr]
    simp [w36_L1, hx.sl.len]
  | 0, t :: l, x, ws, c, b, st, hm, hn, hx, hl, hd, h0, hc, hro, hp => by
    have := cnt_pos t.1
    simp only [msr] at hm
    omega
  | n + 1, (d, i, f) :: l, x, ws, c, b, st, hm, hn, hx, hl, hd, h0, hc, hro, hp => by
    rw [List.reverse_cons] at hl
    obtain ⟨vs, v, rfl, hl2, ht⟩ := hl.snoc
    have hlen : vs.length = l.length := by rw [hl2.len, List.length_reverse]
    obtain ⟨x', hx', hpop⟩ := call_pop hx ht
    obtain ⟨k, s, m, kids, y, es, e, rfl, hy, hk, r1, r2, r3⟩ := ht.shape
    dsimp only at e
    subst e
    have hpos : ((vs.length + 1 : Nat) : Int) > 0 := by omega
    have hxl : ∀ {β : Type} (K : Nat → Option β), lenS x K = K (vs.length + 1) := fun K => by rw [hx.sl.len]; simp
    simp only [mayT, mayD, Bool.and_eq_true] at hd
    obtain ⟨⟨hok, hks⟩, hls⟩ := hd
    simp only [msr, cntD, txt, txtD] at hm hc
    have ldw0 := fun {β : Type} (K : AV → List Nat → Option β) => loadS_mp hp 1 false 3 K
    have ldw : ∀ {β : Type} (K : AV → List Nat → Option β), loadS 1 false (.mp p 3) st K = K (.int .i64 w) [p] := fun K => by rw [ldw0]; rfl
    by_cases hcw : c > w
    · refine ⟨0, c, b, st, ?_, by simp only [fitF, if_pos hcw]; exact decide_eq_false (by omega), Keeps.refl _ _⟩
      rw [loopO_inr]
      simp only [w36_L1, unc_cons, asB_bool, asI_int, un0_nil, hxl, ifB_decide, if_pos hpos, notNil, chk_true, fldA_mp, Nat.zero_add, ldw, bindO_ok, if_neg (show ¬ c ≤ w from by omega)]
    have hcw' : c ≤ w := by omega
    have hcwd : decide (c ≤ w) = true := decide_eq_true hcw'
    obtain ⟨st2, hg, hkeep, hh, fx, hst⟩ := local_var (O := orc vE) (st := st) (t := 59) (z := 6) (old := [.int .u8 0, .str [], .int .i64 0, .nils, .int .i64 0, .bool false]) (cs := [.int .u8 k, .str s, .int .i64 m, y, .int .i64 i, .bool f]) (.agg [.int .u8 k, .str s, .int .i64 m, y, .int .i64 i, .bool f]) rfl rfl hro
    have hst1 := fun {β : Type} (K : Kv β) => hst K
    have hro2 : st2.ro ≤ st2.h := by rw [hkeep.ro, hh]; omega
    have hp2 := hkeep.old p _ (fun h => h) hp
    have ht6 : takeO 6 true [.int .u8 k, .str s, .int .i64 m, y, .int .i64 i, .bool f] = some (.agg [.int .u8 k, .str s, .int .i64 m, y, .int .i64 i, .bool f]) := rfl
    have ld := fun {β : Type} (o : Nat) (K : AV → List Nat → Option β) => loadS_mp hg 1 false o K
    have ld6 := fun {β : Type} (K : AV → List Nat → Option β) => loadS_mp hg 6 true 0 K
    have hw1 : IntKind.wrap .i64 (c + 1) = c + 1 := wrap_i64 (by omega) (by omega)
    by_cases k1 : k = 1
    · have hval : validS s = true := by
        subst k1
        simp only [okD, if_true, Bool.and_eq_true] at hok
        exact hok.1.1.2
      have hch : ∀ {β : Type} (K : Kv β), planS (orc vE) (primP (Prim.lib libRunes) [.str s]) st2 K = K (.int .i64 (chars s : Int)) st2 q0 := fun K => by
        rw [← runes_chars hval]; exact planS_lib (libRunes_ok (by omega)) st2 K
      have hcl := chars_le s
      have hwc : IntKind.wrap .i64 (c + (chars s : Int)) = c + chars s := wrap_i64 (by omega) (by omega)
      obtain ⟨k', c', b', st', hrun, hres, hke⟩ := fits_loop w hw n l x' vs (c + chars s) b st2 (by omega) (by omega) hx' hl2 hls (by omega) (by omega) hro2 hp2
      refine ⟨k', c', b', st', ?_, by rw [hres]; simp only [fitF, if_neg hcw, if_pos k1], hkeep.trans hke⟩
      rw [loopO_inl (s' := ([.bool b, .int .i64 (c + chars s), x'], st2))]
      · exact hrun
      · simp only [w36_L1, unc_cons, asB_bool, asI_int, un0_nil, hxl, ifB_decide, notNil, chk_true, fldA_mp, Nat.zero_add, ldw, letSt_eq, hpop, unT_tup, nthS_zero, nthS_one, unA_agg, asS_str, hy.asOne, hst, hst1, ld, List.drop_zero, List.drop_succ_cons, takeO_one, bindO_ok, ifB_beq, onSum_inl, onSum_inr, letV_eq, ifB_true, ifB_false, if_pos hpos, if_pos hcw', if_pos k1, hch, hwc]
    by_cases k2 : k = 2 ∨ k = 3
    · by_cases hf : f = false
      · refine ⟨1, c, true, st2, ?_, by simp only [fitF, if_neg hcw, if_neg k1, if_pos k2, if_pos hf], hkeep⟩
        rw [loopO_inr]
        subst hf
        rcases k2 with rfl | rfl
        · simp only [w36_L1, unc_cons, asB_bool, asI_int, un0_nil, hxl, ifB_decide, notNil, chk_true, fldA_mp, Nat.zero_add, ldw, letSt_eq, hpop, unT_tup, nthS_zero, nthS_one, unA_agg, asS_str, hy.asOne, hst, hst1, ld, List.drop_zero, List.drop_succ_cons, takeO_one, bindO_ok, ifB_beq, onSum_inl, onSum_inr, letV_eq, ifB_true, ifB_false, if_pos hpos, if_pos hcw', if_true, if_neg k1, Bool.not_false, beq_self_eq_true]
        · simp only [w36_L1, unc_cons, asB_bool, asI_int, un0_nil, hxl, ifB_decide, notNil, chk_true, fldA_mp, Nat.zero_add, ldw, letSt_eq, hpop, unT_tup, nthS_zero, nthS_one, unA_agg, asS_str, hy.asOne, hst, hst1, ld, List.drop_zero, List.drop_succ_cons, takeO_one, bindO_ok, ifB_beq, onSum_inl, onSum_inr, letV_eq, ifB_true, ifB_false, if_pos hpos, if_pos hcw', if_true, if_neg k1, Bool.not_false, beq_self_eq_true, show ¬ (3 : Int) = 2 from by omega, if_false]
      · have hf : f = true := by simpa using hf
        subst hf
        obtain ⟨k', c', b', st', hrun, hres, hke⟩ := fits_loop w hw n l x' vs (if k = 2 then c + 1 else c) b st2 (by omega) (by omega) hx' hl2 hls (by split <;> omega) (by split <;> omega) hro2 hp2
        refine ⟨k', c', b', st', ?_, by rw [hres]; simp only [fitF, if_neg hcw, if_neg k1, if_pos k2, if_neg hf], hkeep.trans hke⟩
        rw [loopO_inl (s' := ([.bool b, .int .i64 (if k = 2 then c + 1 else c), x'], st2))]
        · exact hrun
        · rcases k2 with rfl | rfl
          · simp only [w36_L1, unc_cons, asB_bool, asI_int, un0_nil, hxl, ifB_decide, notNil, chk_true, fldA_mp, Nat.zero_add, ldw, letSt_eq, hpop, unT_tup, nthS_zero, nthS_one, unA_agg, asS_str, hy.asOne, hst, hst1, ld, List.drop_zero, List.drop_succ_cons, takeO_one, bindO_ok, ifB_beq, onSum_inl, onSum_inr, letV_eq, ifB_true, ifB_false, if_pos hpos, if_pos hcw', if_true, if_neg k1, Bool.not_true, beq_self_eq_true, hw1, show ((2 : Int) == 4) = false from rfl]
          · simp only [w36_L1, unc_cons, asB_bool, asI_int, un0_nil, hxl, ifB_decide, notNil, chk_true, fldA_mp, Nat.zero_add, ldw, letSt_eq, hpop, unT_tup, nthS_zero, nthS_one, unA_agg, asS_str, hy.asOne, hst, hst1, ld, List.drop_zero, List.drop_succ_cons, takeO_one, bindO_ok, ifB_beq, onSum_inl, onSum_inr, letV_eq, ifB_true, ifB_false, if_pos hpos, if_pos hcw', if_true, if_neg k1, Bool.not_true, beq_self_eq_true, show ¬ (3 : Int) = 2 from by omega, if_false, show ((3 : Int) == 4) = false from rfl]
    have k2' : ¬ k = 2 ∧ ¬ k = 3 := by omega
    have e2 : (k == 2) = false := beq_false_of_ne k2'.1
    have e3 : (k == 3) = false := beq_false_of_ne k2'.2
    by_cases k4 : k = 4
    · refine ⟨1, c, true, st2, ?_, by simp only [fitF, if_neg hcw, if_neg k1, if_neg k2, if_pos k4], hkeep⟩
      rw [loopO_inr]
      subst k4
      cases f <;> simp only [w36_L1, unc_cons, asB_bool, asI_int, un0_nil, hxl, ifB_decide, notNil, chk_true, fldA_mp, Nat.zero_add, ldw, letSt_eq, hpop, unT_tup, nthS_zero, nthS_one, unA_agg, asS_str, hy.asOne, hst, hst1, ld, List.drop_zero, List.drop_succ_cons, takeO_one, bindO_ok, ifB_beq, onSum_inl, onSum_inr, letV_eq, ifB_true, ifB_false, if_pos hpos, if_pos hcw', if_neg k1, if_neg k2'.1, if_neg k2'.2, if_true, Bool.not_true, Bool.not_false, beq_self_eq_true]
    have e4 : (k == 4) = false := beq_false_of_ne k4
    have hlm := len_msr l
    have hkm := len_cnts kids
    obtain ⟨x2, us, hx2, hus, hpush⟩ := call_push hx' ht i (f || k == 6) kids ⟨k, s, m, rfl⟩ (by omega)
    obtain ⟨k', c', b', st', hrun, hres, hke⟩ := fits_loop w hw n (kidsT kids i (f || k == 6) ++ l) x2 (vs ++ us) c b st2 (by rw [msr_kids]; omega) (by omega) hx2 (by rw [rev_kids]; exact All2.append hl2 hus) (mayT_kids hks hls) h0 (by rw [txt_kids, msr_kids]; omega) hro2 hp2
    refine ⟨k', c', b', st', ?_, by rw [hres]; simp only [fitF, if_neg hcw, if_neg k1, if_neg k2, if_neg k4], hkeep.trans hke⟩
    rw [loopO_inl (s' := ([.bool b, .int .i64 c, x2], st2))]
    · exact hrun
    · cases f with
      | true =>
        rw [Bool.true_or] at hpush
        simp only [w36_L1, unc_cons, asB_bool, asI_int, un0_nil, hxl, ifB_decide, notNil, chk_true, fldA_mp, Nat.zero_add, ldw, letSt_eq, hpop, unT_tup, nthS_zero, nthS_one, unA_agg, asS_str, hy.asOne, hst, hst1, ld, List.drop_zero, List.drop_succ_cons, takeO_one, bindO_ok, ifB_beq, onSum_inl, onSum_inr, letV_eq, ifB_true, ifB_false, if_pos hpos, if_pos hcw', if_neg k1, if_neg k2'.1, if_neg k2'.2, e4, ld6, ht6, hpush]
      | false =>
        rw [Bool.false_or] at hpush
        simp only [w36_L1, unc_cons, asB_bool, asI_int, un0_nil, hxl, ifB_decide, notNil, chk_true, fldA_mp, Nat.zero_add, ldw, letSt_eq, hpop, unT_tup, nthS_zero, nthS_one, unA_agg, asS_str, hy.asOne, hst, hst1, ld, List.drop_zero, List.drop_succ_cons, takeO_one, bindO_ok, ifB_beq, onSum_inl, onSum_inr, letV_eq, ifB_true, ifB_false, if_pos hpos, if_pos hcw', if_neg k1, if_neg k2'.1, if_neg k2'.2, e4, ld6, ht6, hpush]
theorem fits_ok {l : List Todo} {x : AV} {ws : List AV} {c w : Int} {p : Nat} {a0 a1 : AV} {st : St} (hw : -1000000000 ≤ w ∧ w ≤ 1000000000) (hm : msr l ≤ 1000000) (hx : IsSn 6 x ws) (hl : All2 IsTodo l.reverse ws) (hd : mayT l = true) (h0 : 0 ≤ c) (hc : c + txt l + msr l ≤ 1000000000) (hro : st.ro ≤ st.h)
    (hp : st.get p = .ok (.cells 56 [a0, a1, .int .i64 c, .int .i64 w])) :
    ∃ st', Keeps st st' (fun _ => False) ∧ (orc vE).wide 36 [.mp p 0, x] st = some (.bool (fitF w (msr l) l c), st') := by
  obtain ⟨k, c', b', st', hrun, hres, hke⟩ := fits_loop w hw (msr l) l x ws c false st (Nat.le_refl _) hm hx hl hd h0 hc hro hp
  refine ⟨st', hke, wide_of ((w36_eq _ _ _).trans ?_)⟩
  have hp' := hke.old p _ (fun h => h) hp
  have ld := fun {β : Type} (o : Nat) (K : AV → List Nat → Option β) => loadS_mp hp 1 false o K
  have ld' := fun {β : Type} (o : Nat) (K : AV → List Nat → Option β) => loadS_mp hp' 1 false o K
  cases k with
  | zero => simp only [w36, notNil, chk_true, fldA_mp, Nat.zero_add, ld, List.drop_succ_cons, List.drop_zero, takeO_one, bindO_ok, asI_int, hrun, unc_cons, asB_bool, un0_nil, sel2_zero, ld']; rw [← hres]
  | succ k => simp only [w36, notNil, chk_true, fldA_mp, Nat.zero_add, ld, List.drop_succ_cons, List.drop_zero, takeO_one, bindO_ok, asI_int, hrun, unc_cons, asB_bool, un0_nil, sel2_succ, ld']; rw [← hres]
end Go.Proofs.YteajphhelkdjnaaDoor.Vm
/- Layouts: laid out by the program. -/
set_option maxRecDepth 100000
set_option linter.unusedSimpArgs false
namespace Go.Proofs.YteajphhelkdjnaaDoor.Vm
open Go Go.VM Go.Proofs

/-- The writer: what is written, the column, the width. -/
def IsW (st : St) (p : Nat) (c w : Int) (out : List UInt8) : Prop := IsB st 56 5 p [] [.int .i64 c, .int .i64 w] out
theorem IsW.cells {st : St} {p : Nat} {c w : Int} {out : List UInt8} (h : IsW st p c w out) : ∃ a0 a1, st.get p = .ok (.cells 56 [a0, a1, .int .i64 c, .int .i64 w]) ∧ st.ro ≤ p := by
  obtain ⟨a0, a1, h1, _, _, h4⟩ := h
  exact ⟨a0, a1, h1, h4⟩
/-- The column is set. -/
theorem IsW.set {st : St} {p : Nat} {c w : Int} {out : List UInt8} (h : IsW st p c w out) (c' : Int) :
    ∃ st', IsW st' p c' w out ∧ KeepsB st st' 5 p ∧ ∃ fx, ∀ {β : Type} (K : Kv β), storeS (orc vE) 1 (.mp p 2) (.int .i64 c') [.int .i64 c'] st K = K VM.undef st' fx := by
  obtain ⟨a0, a1, h1, h2, h3, h4⟩ := h
  refine ⟨st.put p (.cells 56 [a0, a1, .int .i64 c', .int .i64 w]), ⟨a0, a1, St.get_put_same (St.get_ok.1 h1).1, h2, h3.put h1, h4⟩, KeepsB.put, ⟨[p], .wrote p (.cells 56 [a0, a1, .int .i64 c', .int .i64 w])⟩, fun K => ?_⟩
  exact (storeS_at (O := orc vE) (z := 1) (off := 2) (v := .int .i64 c') (cs := [.int .i64 c']) h1 rfl (by simp) h4 K).trans rfl
theorem write_ok {st : St} {p : Nat} {c w : Int} {out s : List UInt8} (h : IsW st p c w out) (hlen : out.length + s.length ≤ 70368744177664) (hro : st.ro ≤ st.h) :
    ∃ st', IsW st' p c w (out ++ s) ∧ KeepsB st st' 5 p ∧ ∃ fx, ∀ {β : Type} (K : Kv β), callS (orc vE) 44 [.mp p 0, .str s] st K = K (.tup [.int .i64 (s.length : Int), .nili]) st' fx := by
  obtain ⟨st', h1, h2, h3⟩ := bWrite_ok (O := orc vE) (L := [(53, 2, 0), (54, 2, 0), (55, 4, 0), (56, 4, 0)]) h rfl hlen hro
  exact ⟨st', h2, h3, _, fun K => callS_wide K rfl rfl (wide_of ((w44_eq _ _ _).trans h1))⟩
theorem text_ok {st : St} {p : Nat} {c w : Int} {out s : List UInt8} (h : IsW st p c w out) (hv : validS s = true) (hlen : out.length + s.length ≤ 70368744177664) (hro : st.ro ≤ st.h) (h0 : 0 ≤ c) (hc : c ≤ 1000000000000) :
    ∃ st', IsW st' p (c + chars s) w (out ++ s) ∧ KeepsB st st' 5 p ∧ ∃ fx, ∀ {β : Type} (K : Kv β), callS (orc vE) 32 [.mp p 0, .str s] st K = K (.tup []) st' fx := by
  obtain ⟨st2, h2, k2, fx, hw⟩ := write_ok h hlen hro
  obtain ⟨a0, a1, hg, hr⟩ := h2.cells
  obtain ⟨st3, h3, k3, fx3, hs⟩ := h2.set (c + chars s)
  have hcl := chars_le s
  have ld := fun {β : Type} (K : AV → List Nat → Option β) => loadS_mp hg 1 false 2 K
  have hch : ∀ {β : Type} (K : Kv β), planS (orc vE) (primP (Prim.lib libRunes) [.str s]) st2 K = K (.int .i64 (chars s : Int)) st2 q0 := fun K => by
    rw [← runes_chars hv]; exact planS_lib (libRunes_ok (by omega)) st2 K
  have hwc : IntKind.wrap .i64 (c + (chars s : Int)) = c + chars s := wrap_i64 (by omega) (by omega)
  refine ⟨st3, h3, k2.trans k3, _, fun K => callS_wide K rfl rfl (wide_of ((w32_eq _ _ _).trans ?_))⟩
  simp only [w32, asS_str, notNil, chk_true, fldA_mp, Nat.zero_add, hw, ld, List.drop_succ_cons, List.drop_zero, takeO_one, bindO_ok, asI_int, hch, apart_kept, Bool.and_self, letV_eq, hwc, hs]
theorem end_ok {st : St} {p : Nat} {c w : Int} {out : List UInt8} (h : IsW st p c w out) (ind : Nat) (hi : ind ≤ 1000000) (hlen : out.length + (1 + ind) ≤ 70368744177664) (hro : st.ro ≤ st.h) :
    ∃ st', IsW st' p (ind : Int) w (out ++ 10 :: List.replicate ind 32) ∧ KeepsB st st' 5 p ∧ ∃ fx, ∀ {β : Type} (K : Kv β), callS (orc vE) 33 [.mp p 0, .int .i64 (ind : Int)] st K = K (.tup []) st' fx := by
  obtain ⟨st2, h2, k2, fx, hw⟩ := write_ok (s := 10 :: List.replicate ind 32) h (by simp only [List.length_cons, List.length_replicate]; omega) hro
  obtain ⟨st3, h3, k3, fx3, hs⟩ := h2.set (ind : Int)
  have hrep : ∀ {β : Type} (K : Kv β), planS (orc vE) (primP (Prim.lib libRepeat) [.str [32], .int .i64 (ind : Int)]) st K = K (.str (List.replicate ind 32)) st q0 := fun K => by
    rw [← repeatL_one]; exact planS_lib (libRepeat_ok (by simp only [List.length_singleton]; omega) (by omega)) st K
  have hb : Nat.ble (1 + (List.replicate ind (32 : UInt8)).length) 9223372036854775807 = true := Nat.ble_eq_true_of_le (by rw [List.length_replicate]; omega)
  refine ⟨st3, h3, k2.trans k3, _, fun K => callS_wide K rfl rfl (wide_of ((w33_eq _ _ _).trans ?_))⟩
  simp only [w33, asI_int, notNil, chk_true, fldA_mp, Nat.zero_add, hrep, asS_str, apart_kept, Bool.and_self, hb, letV_eq, hw, hs]
/-- The writer at the end. -/
def WF (st : St) (p : Nat) (c w : Int) (out : List UInt8) : Prop := IsW st p c w out ∧ out.length ≤ 70000000000000
theorem wlay_loop (w : Int) (hw : -1000000000 ≤ w ∧ w ≤ 1000000000) {p : Nat} : ∀ (n : Nat) (l : List Todo) (x : AV) (ws : List AV) (c I : Int) (out : List UInt8) (st : St), msr l ≤ n → n ≤ 1000000 → IsSn 6 x ws → All2 IsTodo l.reverse ws → mayT l = true → 0 ≤ c → c + txt l + msr l ≤ 1000000000 → 0 ≤ I → Ind I l → I + 200 * msr l + txt l ≤ 1000000 →
    out.length + txt l + 1000002 * msr l ≤ 70000000000000 → st.ro ≤ st.h → IsW st p c w out →
    ∃ st' c', loopO (w23_L1 (.mp p 0)) ([x], st) = some (0, [], st') ∧ WF st' p c' w (out ++ layF w n l c)
  | n, [], x, ws, c, I, out, st, hm, hn, hx, hl, hd, h0, hc, hI0, hI, hI2, ho, hro, hp => by
    have hl : ws = [] := hl
    subst hl
    have e : layF w n [] c = [] := by cases n <;> rfl
    refine ⟨st, c, ?_, by rw [e, List.append_nil]; exact ⟨hp, by omega⟩⟩
    rw [loopO_inr]
    simp [w23_L1, hx.sl.len]
  | 0, t :: l, x, ws, c, I, out, st, hm, hn, hx, hl, hd, h0, hc, hI0, hI, hI2, ho, hro, hp => by
    have := cnt_pos t.1
    simp only [msr] at hm
    omega
  | n + 1, (d, i, f) :: l, x, ws, c, I, out, st, hm, hn, hx, hl, hd, h0, hc, hI0, hI, hI2, ho, hro, hp => by
    rw [List.reverse_cons] at hl
    obtain ⟨vs, v, rfl, hl2, ht⟩ := hl.snoc
    have hlen : vs.length = l.length := by rw [hl2.len, List.length_reverse]
    obtain ⟨x', hx', hpop⟩ := call_pop hx ht
    obtain ⟨k, s, m, kids, y, es, e, rfl, hy, hk, r1, r2, r3⟩ := ht.shape
    dsimp only at e
    subst e
    have hpos : ((vs.length + 1 : Nat) : Int) > 0 := by omega
    have hxl : ∀ {β : Type} (K : Nat → Option β), lenS x K = K (vs.length + 1) := fun K => by rw [hx.sl.len]; simp
    simp only [mayT, mayD, Bool.and_eq_true] at hd
    obtain ⟨⟨hok, hks⟩, hls⟩ := hd
    have hnok := okD_nok hok
    simp only [nokD, Bool.or_eq_true, Bool.and_eq_true, beq_iff_eq, decide_eq_true_eq] at hnok
    have hIi := hI _ (List.mem_cons_self)
    dsimp only at hIi
    have hIl : Ind I l := fun t ht => hI t (List.mem_cons_of_mem _ ht)
    simp only [msr, cntD, txt, txtD] at hm hc hI2 ho
    obtain ⟨st2, hg, hkeep, hh, fx, hst⟩ := local_var (O := orc vE) (st := st) (t := 59) (z := 6) (old := [.int .u8 0, .str [], .int .i64 0, .nils, .int .i64 0, .bool false]) (cs := [.int .u8 k, .str s, .int .i64 m, y, .int .i64 i, .bool f]) (.agg [.int .u8 k, .str s, .int .i64 m, y, .int .i64 i, .bool f]) rfl rfl hro
    have hst1 := fun {β : Type} (K : Kv β) => hst K
    have hro2 : st2.ro ≤ st2.h := by rw [hkeep.ro, hh]; omega
    have hp2 : IsW st2 p c w out := hp.keep hkeep
    obtain ⟨b0, b1, hpc, _⟩ := hp2.cells
    have ht6 : takeO 6 true [.int .u8 k, .str s, .int .i64 m, y, .int .i64 i, .bool f] = some (.agg [.int .u8 k, .str s, .int .i64 m, y, .int .i64 i, .bool f]) := rfl
    have ht4 : takeO 4 true [.int .u8 k, .str s, .int .i64 m, y, .int .i64 i, .bool f] = some (.agg [.int .u8 k, .str s, .int .i64 m, y]) := rfl
    have ld := fun {β : Type} (o : Nat) (K : AV → List Nat → Option β) => loadS_mp hg 1 false o K
    have ld6 := fun {β : Type} (K : AV → List Nat → Option β) => loadS_mp hg 6 true 0 K
    have ld4 := fun {β : Type} (K : AV → List Nat → Option β) => loadS_mp hg 4 true 0 K
    have hlm := len_msr l
    have hkm := len_cnts kids
    by_cases k1 : k = 1
    · have hval : validS s = true := by
        subst k1
        simp only [okD, if_true, Bool.and_eq_true] at hok
        exact hok.1.1.2
      have hcl := chars_le s
      obtain ⟨st3, hp3, hk3, fx3, htext⟩ := text_ok (s := s) hp2 hval (by omega) hro2 h0 (by omega)
      obtain ⟨st', c', hrun, hW⟩ := wlay_loop w hw n l x' vs (c + chars s) I (out ++ s) st3 (by omega) (by omega) hx' hl2 hls (by omega) (by omega) hI0 hIl (by omega) (by rw [List.length_append]; omega) (by have := hk3.ro; have := hk3.h; omega) hp3
      refine ⟨st', c', ?_, by simp only [layF, if_pos k1]; rw [← List.append_assoc]; exact hW⟩
      rw [loopO_inl (s' := ([x'], st3))]
      · exact hrun
      · simp only [w23_L1, unc_cons, asB_bool, asI_int, un0_nil, hxl, ifB_decide, if_pos hpos, notNil, chk_true, fldA_mp, Nat.zero_add, letSt_eq, hpop, unT_tup, nthS_zero, nthS_one, unA_agg, asS_str, hy.asOne, hst, hst1, ld, List.drop_zero, List.drop_succ_cons, takeO_one, bindO_ok, ifB_beq, onSum_inl, onSum_inr, letV_eq, ifB_true, ifB_false, if_pos k1, htext]
    by_cases k5 : k = 5
    · have hm5 : 0 ≤ m ∧ m ≤ 200 := by omega
      obtain ⟨x2, us, hx2, hus, hpush⟩ := call_push hx' ht (i + m) f kids ⟨k, s, m, rfl⟩ (by omega)
      have hwi : IntKind.wrap .i64 (i + m) = i + m := wrap_i64 (by omega) (by omega)
      obtain ⟨st', c', hrun, hW⟩ := wlay_loop w hw n (kidsT kids (i + m) f ++ l) x2 (vs ++ us) c (I + 200) out st2 (by rw [msr_kids]; omega) (by omega) hx2 (by rw [rev_kids]; exact All2.append hl2 hus) (mayT_kids hks hls) h0 (by rw [txt_kids, msr_kids]; omega) (by omega) (Ind_kids hIl (by omega) (by omega) (by omega)) (by rw [txt_kids, msr_kids]; omega) (by rw [txt_kids, msr_kids]; omega) hro2 hp2
      refine ⟨st', c', ?_, by simp only [layF, if_neg k1, if_pos k5]; exact hW⟩
      rw [loopO_inl (s' := ([x2], st2))]
      · exact hrun
      · subst k5
        simp only [w23_L1, unc_cons, asB_bool, asI_int, un0_nil, hxl, ifB_decide, if_pos hpos, notNil, chk_true, fldA_mp, Nat.zero_add, letSt_eq, hpop, unT_tup, nthS_zero, nthS_one, unA_agg, asS_str, hy.asOne, hst, hst1, ld, List.drop_zero, List.drop_succ_cons, takeO_one, bindO_ok, ifB_beq, onSum_inl, onSum_inr, letV_eq, ifB_true, ifB_false, if_neg k1, show ¬ (5 : Int) = 2 from by omega, show ¬ (5 : Int) = 3 from by omega, show ¬ (5 : Int) = 6 from by omega, show ((5 : Int) == 4) = false from rfl, if_false, ld6, ht6, hwi, hpush]
    by_cases k6 : k = 6
    · have hdoc : IsDoc (.mk k s m kids) (.agg [.int .u8 k, .str s, .int .i64 m, y]) := ⟨y, es, rfl, r1, r2, r3, hy, hk⟩
      obtain ⟨x3, us3, hx3, hus3, hpush3⟩ := call_push hx' ht i true kids ⟨k, s, m, rfl⟩ (by omega)
      have hmk := msr_kids kids i true l
      have htk := txt_kids kids i true l
      obtain ⟨st3, hk3, hfits⟩ := fits_ok (l := kidsT kids i true ++ l) hw (by omega) hx3 (by rw [rev_kids]; exact All2.append hl2 hus3) (mayT_kids hks hls) h0 (by omega) hro2 hpc
      have hfits : ∀ {β : Type} (K : Kv β), callS (orc vE) 36 [.mp p 0, x3] st2 K = K (.bool (fitF w (msr (kidsT kids i true ++ l)) (kidsT kids i true ++ l) c)) st3 ⟨[], .all st2 st3⟩ := fun K => callS_wide K rfl rfl hfits
      have hhard : ∀ {β : Type} (K : Kv β), callS (orc vE) 25 [.agg [.int .u8 k, .str s, .int .i64 m, y]] st2 K = K (.bool (hardD (.mk k s m kids))) st2 q0 := fun K => call1 st2 rfl hdoc.bare (hard_prog _ _ hdoc) K
      have hlay : layF w (n + 1) ((.mk k s m kids, i, f) :: l) c = layF w n (kidsT kids i (f || (!hardD (.mk k s m kids) && fitF w (msr (kidsT kids i true ++ l)) (kidsT kids i true ++ l) c)) ++ l) c := by
        simp only [layF, if_neg k1, if_neg k5, if_pos k6]
      subst k6
      have go : ∀ (fl : Bool) (x2 : AV) (us : List AV) (st4 : St), IsSn 6 x2 (vs ++ us) → All2 IsTodo (kids.reverse.map fun d => (d, i, fl)) us → st4.ro ≤ st4.h → IsW st4 p c w out → w23_L1 (.mp p 0) ([x], st) = some (.inl ([x2], st4)) →
          (f || (!hardD (.mk 6 s m kids) && fitF w (msr (kidsT kids i true ++ l)) (kidsT kids i true ++ l) c)) = fl →
          ∃ st' c', loopO (w23_L1 (.mp p 0)) ([x], st) = some (0, [], st') ∧ WF st' p c' w (out ++ layF w (n + 1) ((.mk 6 s m kids, i, f) :: l) c) := by
        intro fl x2 us st4 hx2 hus hro4 hp4 hstep hfl
        obtain ⟨st', c', hrun, hW⟩ := wlay_loop w hw n (kidsT kids i fl ++ l) x2 (vs ++ us) c I out st4 (by rw [msr_kids]; omega) (by omega) hx2 (by rw [rev_kids]; exact All2.append hl2 hus) (mayT_kids hks hls) h0 (by rw [txt_kids, msr_kids]; omega) hI0 (Ind_kids hIl (by omega) (by omega) (by omega)) (by rw [txt_kids, msr_kids]; omega) (by rw [txt_kids, msr_kids]; omega) hro4 hp4
        refine ⟨st', c', ?_, by rw [hlay, hfl]; exact hW⟩
        rw [loopO_inl hstep]; exact hrun
      cases hf : f with
      | true =>
        subst hf
        refine go true x3 us3 st2 hx3 hus3 hro2 hp2 ?_ (Bool.true_or _)
        simp only [w23_L1, unc_cons, asB_bool, asI_int, un0_nil, hxl, ifB_decide, if_pos hpos, notNil, chk_true, fldA_mp, Nat.zero_add, letSt_eq, hpop, unT_tup, nthS_zero, nthS_one, unA_agg, asS_str, hy.asOne, hst, hst1, ld, List.drop_zero, List.drop_succ_cons, takeO_one, bindO_ok, ifB_beq, onSum_inl, onSum_inr, letV_eq, ifB_true, ifB_false, if_neg k1, show ¬ (6 : Int) = 2 from by omega, show ¬ (6 : Int) = 3 from by omega, show ((6 : Int) == 4) = false from rfl, if_false, if_true, ld6, ht6, hpush3]
      | false =>
        subst hf
        obtain ⟨x2, us, hx2, hus, hpush⟩ := call_push hx' ht i false kids ⟨6, s, m, rfl⟩ (by omega)
        cases hh6 : hardD (.mk 6 s m kids) with
        | true =>
          rw [hh6] at hhard
          refine go false x2 us st2 hx2 hus hro2 hp2 ?_ (by rw [hh6]; rfl)
          simp only [w23_L1, unc_cons, asB_bool, asI_int, un0_nil, hxl, ifB_decide, if_pos hpos, notNil, chk_true, fldA_mp, Nat.zero_add, letSt_eq, hpop, unT_tup, nthS_zero, nthS_one, unA_agg, asS_str, hy.asOne, hst, hst1, ld, List.drop_zero, List.drop_succ_cons, takeO_one, bindO_ok, ifB_beq, onSum_inl, onSum_inr, letV_eq, ifB_true, ifB_false, if_neg k1, show ¬ (6 : Int) = 2 from by omega, show ¬ (6 : Int) = 3 from by omega, show ((6 : Int) == 4) = false from rfl, if_false, if_true, ld6, ht6, ld4, ht4, hpush3, hhard, Bool.not_true, hpush]
        | false =>
          rw [hh6] at hhard
          have hro3 : st3.ro ≤ st3.h := by have := hk3.ro; have := hk3.h; omega
          have hp3 : IsW st3 p c w out := hp2.keep hk3
          have hg3 := hk3.old _ _ (fun h => h) hg
          have ld3 := fun {β : Type} (o : Nat) (K : AV → List Nat → Option β) => loadS_mp hg3 1 false o K
          have ld63 := fun {β : Type} (K : AV → List Nat → Option β) => loadS_mp hg3 6 true 0 K
          cases hff : fitF w (msr (kidsT kids i true ++ l)) (kidsT kids i true ++ l) c with
          | true =>
            rw [hff] at hfits
            refine go true x3 us3 st3 hx3 hus3 hro3 hp3 ?_ (by rw [hh6, hff]; rfl)
            simp only [w23_L1, unc_cons, asB_bool, asI_int, un0_nil, hxl, ifB_decide, if_pos hpos, notNil, chk_true, fldA_mp, Nat.zero_add, letSt_eq, hpop, unT_tup, nthS_zero, nthS_one, unA_agg, asS_str, hy.asOne, hst, hst1, ld, List.drop_zero, List.drop_succ_cons, takeO_one, bindO_ok, ifB_beq, onSum_inl, onSum_inr, letV_eq, ifB_true, ifB_false, if_neg k1, show ¬ (6 : Int) = 2 from by omega, show ¬ (6 : Int) = 3 from by omega, show ((6 : Int) == 4) = false from rfl, if_false, if_true, ld6, ht6, ld4, ht4, hpush3, hhard, Bool.not_false, hfits]
          | false =>
            rw [hff] at hfits
            refine go false x2 us st3 hx2 hus hro3 hp3 ?_ (by rw [hh6, hff]; rfl)
            simp only [w23_L1, unc_cons, asB_bool, asI_int, un0_nil, hxl, ifB_decide, if_pos hpos, notNil, chk_true, fldA_mp, Nat.zero_add, letSt_eq, hpop, unT_tup, nthS_zero, nthS_one, unA_agg, asS_str, hy.asOne, hst, hst1, ld, List.drop_zero, List.drop_succ_cons, takeO_one, bindO_ok, ifB_beq, onSum_inl, onSum_inr, letV_eq, ifB_true, ifB_false, if_neg k1, show ¬ (6 : Int) = 2 from by omega, show ¬ (6 : Int) = 3 from by omega, show ((6 : Int) == 4) = false from rfl, if_false, if_true, ld6, ht6, ld4, ht4, hpush3, hhard, Bool.not_false, hfits, ld63, ld3, hpush]
    by_cases k7 : k = 7
    · have hm7 : m = 0 := by omega
      obtain ⟨x2, us, hx2, hus, hpush⟩ := call_push hx' ht i f kids ⟨k, s, m, rfl⟩ (by omega)
      have hwi : IntKind.wrap .i64 (i + m) = i := by rw [hm7, Int.add_zero]; exact wrap_i64 (by omega) (by omega)
      obtain ⟨st', c', hrun, hW⟩ := wlay_loop w hw n (kidsT kids i f ++ l) x2 (vs ++ us) c I out st2 (by rw [msr_kids]; omega) (by omega) hx2 (by rw [rev_kids]; exact All2.append hl2 hus) (mayT_kids hks hls) h0 (by rw [txt_kids, msr_kids]; omega) hI0 (Ind_kids hIl (by omega) (by omega) (by omega)) (by rw [txt_kids, msr_kids]; omega) (by rw [txt_kids, msr_kids]; omega) hro2 hp2
      refine ⟨st', c', ?_, by simp only [layF, if_neg k1, if_neg k5, if_neg k6, if_pos k7]; exact hW⟩
      rw [loopO_inl (s' := ([x2], st2))]
      · exact hrun
      · subst k7
        simp only [w23_L1, unc_cons, asB_bool, asI_int, un0_nil, hxl, ifB_decide, if_pos hpos, notNil, chk_true, fldA_mp, Nat.zero_add, letSt_eq, hpop, unT_tup, nthS_zero, nthS_one, unA_agg, asS_str, hy.asOne, hst, hst1, ld, List.drop_zero, List.drop_succ_cons, takeO_one, bindO_ok, ifB_beq, onSum_inl, onSum_inr, letV_eq, ifB_true, ifB_false, if_neg k1, show ¬ (7 : Int) = 2 from by omega, show ¬ (7 : Int) = 3 from by omega, show ¬ (7 : Int) = 6 from by omega, show ((7 : Int) == 4) = false from rfl, if_false, ld6, ht6, hwi, hpush]
    by_cases hf : f = true ∧ k ≠ 4
    · obtain ⟨rfl, k4⟩ := hf
      have e4 : (k == 4) = false := beq_false_of_ne k4
      by_cases k2 : k = 2
      · obtain ⟨st3, hp3, hk3, fx3, htext⟩ := text_ok (s := [32]) hp2 rfl (by simp only [List.length_singleton]; omega) hro2 h0 (by omega)
        obtain ⟨st', c', hrun, hW⟩ := wlay_loop w hw n l x' vs (c + 1) I (out ++ [32]) st3 (by omega) (by omega) hx' hl2 hls (by omega) (by omega) hI0 hIl (by omega) (by rw [List.length_append, List.length_singleton]; omega) (by have := hk3.ro; have := hk3.h; omega) hp3
        refine ⟨st', c', ?_, by simp only [layF, if_neg k1, if_neg k5, if_neg k6, if_neg k7, if_pos k2, if_pos (show True ∧ k ≠ 4 from ⟨trivial, k4⟩)]; rw [List.append_assoc] at hW; exact hW⟩
        rw [loopO_inl (s' := ([x'], st3))]
        · exact hrun
        · subst k2
          simp only [w23_L1, unc_cons, asB_bool, asI_int, un0_nil, hxl, ifB_decide, if_pos hpos, notNil, chk_true, fldA_mp, Nat.zero_add, letSt_eq, hpop, unT_tup, nthS_zero, nthS_one, unA_agg, asS_str, hy.asOne, hst, hst1, ld, List.drop_zero, List.drop_succ_cons, takeO_one, bindO_ok, ifB_beq, onSum_inl, onSum_inr, letV_eq, ifB_true, ifB_false, if_neg k1, if_true, beq_self_eq_true, Bool.not_true, show ((2 : Int) == 4) = false from rfl, htext]
      · have k3 : k = 3 := by omega
        obtain ⟨st', c', hrun, hW⟩ := wlay_loop w hw n l x' vs c I out st2 (by omega) (by omega) hx' hl2 hls (by omega) (by omega) hI0 hIl (by omega) (by omega) hro2 hp2
        refine ⟨st', c', ?_, by simp only [layF, if_neg k1, if_neg k5, if_neg k6, if_neg k7, if_neg k2, if_pos (show True ∧ k ≠ 4 from ⟨trivial, k4⟩)]; exact hW⟩
        rw [loopO_inl (s' := ([x'], st2))]
        · exact hrun
        · subst k3
          simp only [w23_L1, unc_cons, asB_bool, asI_int, un0_nil, hxl, ifB_decide, if_pos hpos, notNil, chk_true, fldA_mp, Nat.zero_add, letSt_eq, hpop, unT_tup, nthS_zero, nthS_one, unA_agg, asS_str, hy.asOne, hst, hst1, ld, List.drop_zero, List.drop_succ_cons, takeO_one, bindO_ok, ifB_beq, onSum_inl, onSum_inr, letV_eq, ifB_true, ifB_false, if_neg k1, if_true, beq_self_eq_true, Bool.not_true, if_neg k2, if_false, show ((3 : Int) == 4) = false from rfl]
    · obtain ⟨ind, rfl⟩ := Int.eq_ofNat_of_zero_le hIi.1
      obtain ⟨st3, hp3, hk3, fx3, hend⟩ := end_ok hp2 ind (by omega) (by omega) hro2
      obtain ⟨st', c', hrun, hW⟩ := wlay_loop w hw n l x' vs (ind : Int) I (out ++ 10 :: List.replicate ind 32) st3 (by omega) (by omega) hx' hl2 hls (by omega) (by omega) hI0 hIl (by omega) (by simp only [List.length_append, List.length_cons, List.length_replicate]; omega) (by have := hk3.ro; have := hk3.h; omega) hp3
      refine ⟨st', c', ?_, by simp only [layF, if_neg k1, if_neg k5, if_neg k6, if_neg k7, if_neg hf]; rw [List.append_assoc] at hW; exact hW⟩
      rw [loopO_inl (s' := ([x'], st3))]
      · exact hrun
      · have kk : k = 2 ∨ k = 3 ∨ k = 4 := by omega
        cases hff : f with
        | false =>
          subst hff
          rcases kk with rfl | rfl | rfl
          · simp only [w23_L1, unc_cons, asB_bool, asI_int, un0_nil, hxl, ifB_decide, if_pos hpos, notNil, chk_true, fldA_mp, Nat.zero_add, letSt_eq, hpop, unT_tup, nthS_zero, nthS_one, unA_agg, asS_str, hy.asOne, hst, hst1, ld, List.drop_zero, List.drop_succ_cons, takeO_one, bindO_ok, ifB_beq, onSum_inl, onSum_inr, letV_eq, ifB_true, ifB_false, if_neg k1, if_true, beq_self_eq_true, Bool.not_false, hend]
          · simp only [w23_L1, unc_cons, asB_bool, asI_int, un0_nil, hxl, ifB_decide, if_pos hpos, notNil, chk_true, fldA_mp, Nat.zero_add, letSt_eq, hpop, unT_tup, nthS_zero, nthS_one, unA_agg, asS_str, hy.asOne, hst, hst1, ld, List.drop_zero, List.drop_succ_cons, takeO_one, bindO_ok, ifB_beq, onSum_inl, onSum_inr, letV_eq, ifB_true, ifB_false, if_neg k1, if_true, beq_self_eq_true, Bool.not_false, show ¬ (3 : Int) = 2 from by omega, if_false, hend]
          · simp only [w23_L1, unc_cons, asB_bool, asI_int, un0_nil, hxl, ifB_decide, if_pos hpos, notNil, chk_true, fldA_mp, Nat.zero_add, letSt_eq, hpop, unT_tup, nthS_zero, nthS_one, unA_agg, asS_str, hy.asOne, hst, hst1, ld, List.drop_zero, List.drop_succ_cons, takeO_one, bindO_ok, ifB_beq, onSum_inl, onSum_inr, letV_eq, ifB_true, ifB_false, if_neg k1, if_true, beq_self_eq_true, Bool.not_false, show ¬ (4 : Int) = 2 from by omega, show ¬ (4 : Int) = 3 from by omega, if_false, hend]
        | true =>
          have k4 : k = 4 := by
            rw [hff] at hf
            simpa using hf
          subst hff k4
          simp only [w23_L1, unc_cons, asB_bool, asI_int, un0_nil, hxl, ifB_decide, if_pos hpos, notNil, chk_true, fldA_mp, Nat.zero_add, letSt_eq, hpop, unT_tup, nthS_zero, nthS_one, unA_agg, asS_str, hy.asOne, hst, hst1, ld, List.drop_zero, List.drop_succ_cons, takeO_one, bindO_ok, ifB_beq, onSum_inl, onSum_inr, letV_eq, ifB_true, ifB_false, if_neg k1, if_true, beq_self_eq_true, Bool.not_true, show ¬ (4 : Int) = 2 from by omega, show ¬ (4 : Int) = 3 from by omega, if_false, hend]
theorem wlay_ok {l : List Todo} {x : AV} {ws : List AV} {w I : Int} {p : Nat} {st : St} (hw : -1000000000 ≤ w ∧ w ≤ 1000000000) (hm : msr l ≤ 100000) (hx : IsSn 6 x ws) (hl : All2 IsTodo l.reverse ws) (hn : mayT l = true) (hI0 : 0 ≤ I) (hI : Ind I l) (hI2 : I + 200 * msr l + txt l ≤ 1000000) (hro : st.ro ≤ st.h) (hp : IsW st p 0 w []) :
    ∃ st', (orc vE).wide 23 [.mp p 0, x] st = some (.str (layF w (msr l) l 0), st') := by
  obtain ⟨st', c', hrun, hW⟩ := wlay_loop w hw (msr l) l x ws 0 I [] st (Nat.le_refl _) (by omega) hx hl hn (by omega) (by omega) hI0 hI hI2 (by simp only [List.length_nil]; omega) hro hp
  rw [List.nil_append] at hW
  obtain ⟨hW, hL⟩ := hW
  have hlen : (layF w (msr l) l 0).length < 4611686018427387904 := by omega
  obtain ⟨fx, hbs⟩ := bstring_ok (O := orc vE) (β := AV × St) hW hlen (fun v st _ => asS v fun l => some (.str l, st))
  refine ⟨st', wide_of ((w23_eq _ _ _).trans ?_)⟩
  simp only [w23, hrun, bindO_ok, un0_nil, notNil, chk_true, fldA_mp, Nat.zero_add]
  exact hbs
end Go.Proofs.YteajphhelkdjnaaDoor.Vm
