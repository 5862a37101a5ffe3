/-
  (A part of the proof: Env, F, R0, R1, R2, R3, R4, R5, R6, R7, R8, R9, R10, R11.)
-/
import Derived.Test.YtdfofconhfhgdaaVmBC
import Derived.Test.YtdfofconhfhgdaaVmBH
import Derived.Test.YtdfofconhfhgdaaVmBI
import Derived.Test.YtdfofconhfhgdaaVmBE
import Derived.Test.YtdfofconhfhgdaaVmAI
import Derived.Test.YtdfofconhfhgdaaVmAJ
import Derived.Test.YtdfofconhfhgdaaVmBG
import Derived.Test.YtdfofconhfhgdaaRows
import Derived.KernelRfl
set_option maxRecDepth 1000000
set_option maxHeartbeats 0
namespace Go.Proofs.Ytdfofconhfhgdaa.Vm
open Go Go.VM Go.Proofs
noncomputable def vT : TT := (.node none (.node (some ⟨.func, 1, 8, [.nilfn], false, false⟩) (.node (some ⟨(.int .i64), 1, 8, [(.int .i64 (0))], false, false⟩) (.node (some ⟨(.struct [(0, 2), (1, 3), (2, 4), (3, 6)]), 4, 24, [(.int .i64 (0)), (.int .i64 (0)), (.bool false), (.int .u8 (0))], true, true⟩) (.node (some ⟨(.ptr 89), 1, 8, [.nilp], false, false⟩) (.node (some ⟨.func, 1, 8, [.nilfn], false, false⟩) (.node (some ⟨(.struct [(0, 3), (1, 3), (2, 3)]), 3, 24, [(.int .i64 (0)), (.int .i64 (0)), (.int .i64 (0))], true, true⟩) .leaf .leaf) (.node (some ⟨.func, 1, 8, [.nilfn], false, false⟩) .leaf .leaf)) (.node (some ⟨(.slice 25), 1, 24, [.nils], false, false⟩) (.node (some ⟨(.iface false), 1, 16, [.nili], false, false⟩) .leaf .leaf) (.node none .leaf .leaf))) (.node (some ⟨(.struct [(0, 3), (1, 3)]), 2, 16, [(.int .i64 (0)), (.int .i64 (0))], true, true⟩) (.node (some ⟨.func, 1, 8, [.nilfn], false, false⟩) (.node (some ⟨.func, 1, 8, [.nilfn], false, false⟩) .leaf .leaf) (.node none .leaf .leaf)) (.node (some ⟨.func, 1, 8, [.nilfn], false, false⟩) (.node (some ⟨.func, 1, 8, [.nilfn], false, false⟩) .leaf .leaf) (.node none .leaf .leaf)))) (.node (some ⟨.str, 1, 16, [(.str [])], false, false⟩) (.node (some ⟨(.struct [(0, 17)]), 1, 8, [.nilp], true, false⟩) (.node (some ⟨.func, 1, 8, [.nilfn], false, false⟩) (.node (some ⟨(.struct [(0, 64), (3, 9), (4, 54), (5, 54)]), 6, 56, [(.int .i64 (0)), (.int .i64 (0)), (.int .i64 (0)), (.str []), .nilp, .nilp], true, true⟩) .leaf .leaf) (.node (some ⟨(.struct [(0, 12), (1, 12), (2, 85), (3, 93), (4, 5), (5, 5), (6, 94), (7, 95), (8, 82), (9, 96), (10, 97)]), 11, 48, [(.int .u64 (0)), (.int .u64 (0)), (.int .u32 (0)), (.int .u8 (0)), (.int .u8 (0)), (.int .u8 (0)), (.int .u8 (0)), .nilfn, .nilp, (.int .i32 (0)), (.int .i32 (0))], true, false⟩) .leaf .leaf)) (.node (some ⟨(.struct [(0, 5), (1, 3), (2, 23), (4, 9), (5, 3)]), 6, 56, [(.int .u8 (0)), (.int .i64 (0)), (.int .i64 (0)), (.int .i64 (0)), (.str []), (.int .i64 (0))], true, true⟩) (.node (some ⟨.uptr, 1, 8, [.nilp], false, false⟩) .leaf .leaf) (.node none .leaf .leaf))) (.node none (.node (some ⟨.func, 1, 8, [.nilfn], false, false⟩) (.node (some ⟨(.struct [(0, 73), (1, 70)]), 2, 32, [.nilp, .nils], true, true⟩) .leaf .leaf) (.node none .leaf .leaf)) (.node none (.node (some ⟨(.struct [(0, 90)]), 0, 0, [], true, false⟩) .leaf .leaf) (.node none .leaf .leaf))))) (.node (some ⟨(.int .u8), 1, 1, [(.int .u8 (0))], false, false⟩) (.node (some ⟨.str, 1, 16, [(.str [])], false, false⟩) (.node (some ⟨(.ptr 99), 1, 8, [.nilp], false, false⟩) (.node (some ⟨.func, 1, 8, [.nilfn], false, false⟩) (.node (some ⟨.func, 1, 8, [.nilfn], false, false⟩) .leaf .leaf) (.node (some ⟨(.int .i32), 1, 4, [(.int .i32 (0))], false, false⟩) .leaf .leaf)) (.node (some ⟨(.int .u64), 1, 8, [(.int .u64 (0))], false, false⟩) (.node (some ⟨.func, 1, 8, [.nilfn], false, false⟩) .leaf .leaf) (.node none .leaf .leaf))) (.node (some ⟨(.ptr 57), 1, 8, [.nilp], false, false⟩) (.node (some ⟨.func, 1, 8, [.nilfn], false, false⟩) (.node (some ⟨(.ptr 75), 1, 8, [.nilp], false, false⟩) .leaf .leaf) (.node none .leaf .leaf)) (.node (some ⟨(.struct [(0, 54)]), 1, 8, [.nilp], true, true⟩) (.node (some ⟨(.struct [(0, 17), (1, 17), (2, 17), (3, 9)]), 4, 40, [.nilp, .nilp, .nilp, (.str [])], true, false⟩) .leaf .leaf) (.node none .leaf .leaf)))) (.node (some ⟨(.struct [(0, 9), (1, 12)]), 2, 24, [(.str []), (.int .u64 (0))], true, false⟩) (.node (some ⟨(.int .i32), 1, 4, [(.int .i32 (0))], false, false⟩) (.node (some ⟨.func, 1, 8, [.nilfn], false, false⟩) (.node (some ⟨.func, 1, 8, [.nilfn], false, false⟩) .leaf .leaf) (.node none .leaf .leaf)) (.node (some ⟨.func, 1, 8, [.nilfn], false, false⟩) (.node (some ⟨(.int .u32), 1, 4, [(.int .u32 (0))], false, false⟩) .leaf .leaf) (.node none .leaf .leaf))) (.node (some ⟨.func, 1, 8, [.nilfn], false, false⟩) (.node (some ⟨(.struct [(0, 9)]), 1, 16, [(.str [])], true, true⟩) (.node (some ⟨.func, 1, 8, [.nilfn], false, false⟩) .leaf .leaf) (.node none .leaf .leaf)) (.node (some ⟨.func, 1, 8, [.nilfn], false, false⟩) (.node (some ⟨(.int .u8), 1, 1, [(.int .u8 (0))], false, false⟩) .leaf .leaf) (.node none .leaf .leaf)))))) (.node (some ⟨(.int .i64), 1, 8, [(.int .i64 (0))], false, false⟩) (.node (some ⟨.bool, 1, 1, [(.bool false)], false, false⟩) (.node (some ⟨(.struct [(0, 2), (1, 3), (2, 4), (3, 6)]), 4, 24, [(.int .i64 (0)), (.int .i64 (0)), (.bool false), (.int .u8 (0))], true, true⟩) (.node (some ⟨(.ptr 92), 1, 8, [.nilp], false, false⟩) (.node none (.node (some ⟨(.struct [(0, 3), (1, 3), (2, 3)]), 3, 24, [(.int .i64 (0)), (.int .i64 (0)), (.int .i64 (0))], true, true⟩) .leaf .leaf) (.node (some ⟨(.int .i32), 1, 4, [(.int .i32 (0))], false, false⟩) .leaf .leaf)) (.node (some ⟨(.slice 46), 1, 24, [.nils], false, false⟩) (.node none .leaf .leaf) (.node none .leaf .leaf))) (.node (some ⟨.func, 1, 8, [.nilfn], false, false⟩) (.node (some ⟨.func, 1, 8, [.nilfn], false, false⟩) (.node (some ⟨.func, 1, 8, [.nilfn], false, false⟩) .leaf .leaf) (.node none .leaf .leaf)) (.node (some ⟨(.struct [(0, 54)]), 1, 8, [.nilp], true, true⟩) (.node (some ⟨(.struct [(0, 17), (1, 17), (2, 17), (3, 9)]), 4, 40, [.nilp, .nilp, .nilp, (.str [])], true, false⟩) .leaf .leaf) (.node none .leaf .leaf)))) (.node (some ⟨(.int .u64), 1, 8, [(.int .u64 (0))], false, false⟩) (.node (some ⟨(.iface true), 1, 16, [.nili], false, false⟩) (.node (some ⟨.func, 1, 8, [.nilfn], false, false⟩) (.node (some ⟨.func, 1, 8, [.nilfn], false, false⟩) .leaf .leaf) (.node none .leaf .leaf)) (.node none (.node (some ⟨.func, 1, 8, [.nilfn], false, false⟩) .leaf .leaf) (.node none .leaf .leaf))) (.node (some ⟨.func, 1, 8, [.nilfn], false, false⟩) (.node (some ⟨.func, 1, 8, [.nilfn], false, false⟩) (.node (some ⟨.func, 1, 8, [.nilfn], false, false⟩) .leaf .leaf) (.node none .leaf .leaf)) (.node (some ⟨.func, 1, 8, [.nilfn], false, false⟩) (.node (some ⟨(.struct [(0, 90)]), 0, 0, [], true, false⟩) .leaf .leaf) (.node none .leaf .leaf))))) (.node (some ⟨(.int .u8), 1, 1, [(.int .u8 (0))], false, false⟩) (.node (some ⟨.str, 1, 16, [(.str [])], false, false⟩) (.node (some ⟨(.struct [(0, 17)]), 1, 8, [.nilp], true, false⟩) (.node (some ⟨.func, 1, 8, [.nilfn], false, false⟩) (.node (some ⟨(.struct [(0, 64), (3, 9), (4, 54), (5, 54)]), 6, 56, [(.int .i64 (0)), (.int .i64 (0)), (.int .i64 (0)), (.str []), .nilp, .nilp], true, true⟩) .leaf .leaf) (.node (some ⟨(.struct [(0, 12), (1, 12), (2, 85), (3, 93), (4, 5), (5, 5), (6, 94), (7, 95), (8, 82), (9, 96), (10, 97)]), 11, 48, [(.int .u64 (0)), (.int .u64 (0)), (.int .u32 (0)), (.int .u8 (0)), (.int .u8 (0)), (.int .u8 (0)), (.int .u8 (0)), .nilfn, .nilp, (.int .i32 (0)), (.int .i32 (0))], true, false⟩) .leaf .leaf)) (.node (some ⟨(.struct [(0, 5), (1, 3), (2, 23), (4, 9), (5, 3)]), 6, 56, [(.int .u8 (0)), (.int .i64 (0)), (.int .i64 (0)), (.int .i64 (0)), (.str []), (.int .i64 (0))], true, true⟩) (.node (some ⟨(.ptr 5), 1, 8, [.nilp], false, false⟩) .leaf .leaf) (.node none .leaf .leaf))) (.node (some ⟨(.int .i64), 1, 8, [(.int .i64 (0))], false, false⟩) (.node (some ⟨(.slice 51), 1, 24, [.nils], false, false⟩) (.node (some ⟨(.struct [(0, 73), (1, 70)]), 2, 32, [.nilp, .nils], true, true⟩) .leaf .leaf) (.node none .leaf .leaf)) (.node (some ⟨.func, 1, 8, [.nilfn], false, false⟩) (.node (some ⟨(.arr 0 16), 0, 0, [], true, false⟩) .leaf .leaf) (.node none .leaf .leaf)))) (.node (some ⟨(.struct [(0, 9), (1, 12)]), 2, 24, [(.str []), (.int .u64 (0))], true, false⟩) (.node (some ⟨(.struct [(0, 3), (1, 3)]), 2, 16, [(.int .i64 (0)), (.int .i64 (0))], true, true⟩) (.node none (.node (some ⟨(.slice 5), 1, 24, [.nils], false, false⟩) .leaf .leaf) (.node none .leaf .leaf)) (.node (some ⟨(.ptr 67), 1, 8, [.nilp], false, false⟩) (.node none .leaf .leaf) (.node none .leaf .leaf))) (.node (some ⟨.func, 1, 8, [.nilfn], false, false⟩) (.node (some ⟨(.struct [(0, 9)]), 1, 16, [(.str [])], true, true⟩) (.node (some ⟨(.iface false), 1, 16, [.nili], false, false⟩) .leaf .leaf) (.node none .leaf .leaf)) (.node (some ⟨.func, 1, 8, [.nilfn], false, false⟩) (.node (some ⟨(.int .u8), 1, 1, [(.int .u8 (0))], false, false⟩) .leaf .leaf) (.node none .leaf .leaf)))))))
theorem vT_ok : TOk Try.prog vT := tt_ok (d := 7) (by kernel_rfl)
noncomputable def vF : Tr Func := (.node none (.node none (.node (some Try.f3) (.node (some Try.f7) (.node (some Try.f15) (.node (some Try.f31) (.node none .leaf .leaf) .leaf) (.node none .leaf .leaf)) (.node (some Try.f23) (.node (some Try.f39) (.node none .leaf .leaf) .leaf) (.node none .leaf .leaf))) (.node (some Try.f11) (.node (some Try.f19) (.node (some Try.f35) (.node none .leaf .leaf) .leaf) (.node none .leaf .leaf)) (.node (some Try.f27) (.node none .leaf .leaf) (.node none .leaf .leaf)))) (.node (some Try.f5) (.node (some Try.f9) (.node (some Try.f17) (.node (some Try.f33) (.node none .leaf .leaf) .leaf) (.node none .leaf .leaf)) (.node (some Try.f25) (.node none .leaf .leaf) (.node none .leaf .leaf))) (.node (some Try.f13) (.node (some Try.f21) (.node (some Try.f37) (.node none .leaf .leaf) .leaf) (.node none .leaf .leaf)) (.node (some Try.f29) (.node (some Try.f45) .leaf .leaf) (.node none .leaf .leaf))))) (.node none (.node (some Try.f4) (.node (some Try.f8) (.node (some Try.f16) (.node (some Try.f32) (.node none .leaf .leaf) .leaf) (.node none .leaf .leaf)) (.node (some Try.f24) (.node (some Try.f40) (.node none .leaf .leaf) .leaf) (.node none .leaf .leaf))) (.node (some Try.f12) (.node (some Try.f20) (.node (some Try.f36) (.node none .leaf .leaf) .leaf) (.node none .leaf .leaf)) (.node (some Try.f28) (.node none .leaf .leaf) (.node none .leaf .leaf)))) (.node (some Try.f6) (.node (some Try.f10) (.node (some Try.f18) (.node none (.node none .leaf .leaf) .leaf) (.node none .leaf .leaf)) (.node (some Try.f26) (.node none .leaf .leaf) (.node none .leaf .leaf))) (.node (some Try.f14) (.node (some Try.f22) (.node (some Try.f38) (.node none .leaf .leaf) .leaf) (.node none .leaf .leaf)) (.node (some Try.f30) (.node none .leaf .leaf) (.node none .leaf .leaf))))))
theorem vF_ok : Tr.Every (FnOk Try.prog) vF := (Tr.every_node noFn (Tr.every_node noFn (Tr.every_node (fnOk Try.func3 Try.call3 (by kernel_rfl)) (Tr.every_node (fnOk Try.func7 Try.call7 (by kernel_rfl)) (Tr.every_node (fnOk Try.func15 Try.call15 (by kernel_rfl)) (Tr.every_node (fnOk Try.func31 Try.call31 (by kernel_rfl)) (Tr.every_node noFn Tr.every_leaf Tr.every_leaf) Tr.every_leaf) (Tr.every_node noFn Tr.every_leaf Tr.every_leaf)) (Tr.every_node (fnOk Try.func23 Try.call23 (by kernel_rfl)) (Tr.every_node (fnOk Try.func39 Try.call39 (by kernel_rfl)) (Tr.every_node noFn Tr.every_leaf Tr.every_leaf) Tr.every_leaf) (Tr.every_node noFn Tr.every_leaf Tr.every_leaf))) (Tr.every_node (fnOk Try.func11 Try.call11 (by kernel_rfl)) (Tr.every_node (fnOk Try.func19 Try.call19 (by kernel_rfl)) (Tr.every_node (fnOk Try.func35 Try.call35 (by kernel_rfl)) (Tr.every_node noFn Tr.every_leaf Tr.every_leaf) Tr.every_leaf) (Tr.every_node noFn Tr.every_leaf Tr.every_leaf)) (Tr.every_node (fnOk Try.func27 Try.call27 (by kernel_rfl)) (Tr.every_node noFn Tr.every_leaf Tr.every_leaf) (Tr.every_node noFn Tr.every_leaf Tr.every_leaf)))) (Tr.every_node (fnOk Try.func5 Try.call5 (by kernel_rfl)) (Tr.every_node (fnOk Try.func9 Try.call9 (by kernel_rfl)) (Tr.every_node (fnOk Try.func17 Try.call17 (by kernel_rfl)) (Tr.every_node (fnOk Try.func33 Try.call33 (by kernel_rfl)) (Tr.every_node noFn Tr.every_leaf Tr.every_leaf) Tr.every_leaf) (Tr.every_node noFn Tr.every_leaf Tr.every_leaf)) (Tr.every_node (fnOk Try.func25 Try.call25 (by kernel_rfl)) (Tr.every_node noFn Tr.every_leaf Tr.every_leaf) (Tr.every_node noFn Tr.every_leaf Tr.every_leaf))) (Tr.every_node (fnOk Try.func13 Try.call13 (by kernel_rfl)) (Tr.every_node (fnOk Try.func21 Try.call21 (by kernel_rfl)) (Tr.every_node (fnOk Try.func37 Try.call37 (by kernel_rfl)) (Tr.every_node noFn Tr.every_leaf Tr.every_leaf) Tr.every_leaf) (Tr.every_node noFn Tr.every_leaf Tr.every_leaf)) (Tr.every_node (fnOk Try.func29 Try.call29 (by kernel_rfl)) (Tr.every_node (fnOk Try.func45 Try.call45 (by kernel_rfl)) Tr.every_leaf Tr.every_leaf) (Tr.every_node noFn Tr.every_leaf Tr.every_leaf))))) (Tr.every_node noFn (Tr.every_node (fnOk Try.func4 Try.call4 (by kernel_rfl)) (Tr.every_node (fnOk Try.func8 Try.call8 (by kernel_rfl)) (Tr.every_node (fnOk Try.func16 Try.call16 (by kernel_rfl)) (Tr.every_node (fnOk Try.func32 Try.call32 (by kernel_rfl)) (Tr.every_node noFn Tr.every_leaf Tr.every_leaf) Tr.every_leaf) (Tr.every_node noFn Tr.every_leaf Tr.every_leaf)) (Tr.every_node (fnOk Try.func24 Try.call24 (by kernel_rfl)) (Tr.every_node (fnOk Try.func40 Try.call40 (by kernel_rfl)) (Tr.every_node noFn Tr.every_leaf Tr.every_leaf) Tr.every_leaf) (Tr.every_node noFn Tr.every_leaf Tr.every_leaf))) (Tr.every_node (fnOk Try.func12 Try.call12 (by kernel_rfl)) (Tr.every_node (fnOk Try.func20 Try.call20 (by kernel_rfl)) (Tr.every_node (fnOk Try.func36 Try.call36 (by kernel_rfl)) (Tr.every_node noFn Tr.every_leaf Tr.every_leaf) Tr.every_leaf) (Tr.every_node noFn Tr.every_leaf Tr.every_leaf)) (Tr.every_node (fnOk Try.func28 Try.call28 (by kernel_rfl)) (Tr.every_node noFn Tr.every_leaf Tr.every_leaf) (Tr.every_node noFn Tr.every_leaf Tr.every_leaf)))) (Tr.every_node (fnOk Try.func6 Try.call6 (by kernel_rfl)) (Tr.every_node (fnOk Try.func10 Try.call10 (by kernel_rfl)) (Tr.every_node (fnOk Try.func18 Try.call18 (by kernel_rfl)) (Tr.every_node noFn (Tr.every_node noFn Tr.every_leaf Tr.every_leaf) Tr.every_leaf) (Tr.every_node noFn Tr.every_leaf Tr.every_leaf)) (Tr.every_node (fnOk Try.func26 Try.call26 (by kernel_rfl)) (Tr.every_node noFn Tr.every_leaf Tr.every_leaf) (Tr.every_node noFn Tr.every_leaf Tr.every_leaf))) (Tr.every_node (fnOk Try.func14 Try.call14 (by kernel_rfl)) (Tr.every_node (fnOk Try.func22 Try.call22 (by kernel_rfl)) (Tr.every_node (fnOk Try.func38 Try.call38 (by kernel_rfl)) (Tr.every_node noFn Tr.every_leaf Tr.every_leaf) Tr.every_leaf) (Tr.every_node noFn Tr.every_leaf Tr.every_leaf)) (Tr.every_node (fnOk Try.func30 Try.call30 (by kernel_rfl)) (Tr.every_node noFn Tr.every_leaf Tr.every_leaf) (Tr.every_node noFn Tr.every_leaf Tr.every_leaf))))))
noncomputable def vP : Tr Prim := (.node none (.node none (.node none (.node none (.node none (.node none (.node none .leaf .leaf) .leaf) (.node (some (.copyCheck [(74, 2, 0), (75, 2, 0)])) .leaf .leaf)) (.node none (.node none (.node none .leaf .leaf) .leaf) (.node none .leaf .leaf))) (.node none (.node none (.node none (.node none .leaf .leaf) .leaf) (.node none .leaf .leaf)) (.node none (.node none .leaf .leaf) (.node none .leaf .leaf)))) (.node none (.node none (.node none (.node none (.node none .leaf .leaf) .leaf) (.node none .leaf .leaf)) (.node none (.node (some (.builderString 5)) .leaf .leaf) (.node none .leaf .leaf))) (.node none (.node none (.node none (.node none .leaf .leaf) .leaf) (.node none .leaf .leaf)) (.node none (.node none .leaf .leaf) (.node none .leaf .leaf))))) (.node none (.node none (.node none (.node none (.node none (.node none .leaf .leaf) .leaf) (.node none .leaf .leaf)) (.node none (.node none (.node none .leaf .leaf) .leaf) (.node none .leaf .leaf))) (.node none (.node none (.node none (.node none .leaf .leaf) .leaf) (.node none .leaf .leaf)) (.node none (.node none .leaf .leaf) (.node none .leaf .leaf)))) (.node none (.node none (.node none (.node (some (.lib libCount)) (.node none .leaf .leaf) .leaf) (.node none .leaf .leaf)) (.node none (.node none .leaf .leaf) (.node none .leaf .leaf))) (.node none (.node none (.node none (.node none .leaf .leaf) .leaf) (.node none .leaf .leaf)) (.node none (.node none .leaf .leaf) (.node none .leaf .leaf))))))
noncomputable def vG : Tr (List AV) := (.node none .leaf .leaf)
noncomputable def vI : Tr (List Nat) := (.node none (.node none (.node (some [23, 57, 67]) (.node (some [57, 67]) (.node (some [57, 67]) (.node (some [57, 67]) (.node none .leaf .leaf) .leaf) (.node none .leaf .leaf)) (.node (some [23, 46, 57, 67]) (.node (some [57, 67]) (.node none .leaf .leaf) .leaf) (.node none .leaf .leaf))) (.node (some [57, 67]) (.node (some [57, 67]) (.node (some [57, 67]) (.node none .leaf .leaf) .leaf) (.node none .leaf .leaf)) (.node (some [57, 67]) (.node none .leaf .leaf) (.node none .leaf .leaf)))) (.node (some [57, 67]) (.node (some [23, 57, 67]) (.node (some [57, 67]) (.node (some [57, 67]) (.node none .leaf .leaf) .leaf) (.node none .leaf .leaf)) (.node (some [46, 57, 67]) (.node none .leaf .leaf) (.node none .leaf .leaf))) (.node (some [57, 67]) (.node (some [57, 67]) (.node (some [57, 67]) (.node none .leaf .leaf) .leaf) (.node none .leaf .leaf)) (.node (some [57, 67]) (.node (some [57, 67]) .leaf .leaf) (.node none .leaf .leaf))))) (.node none (.node (some [57, 67]) (.node (some [57, 67]) (.node (some [57, 67]) (.node (some [57, 67]) (.node none .leaf .leaf) .leaf) (.node none .leaf .leaf)) (.node (some [23, 46, 57, 67]) (.node (some [57, 67]) (.node none .leaf .leaf) .leaf) (.node none .leaf .leaf))) (.node (some [23, 57, 67]) (.node (some [57, 67]) (.node (some [57, 67]) (.node none .leaf .leaf) .leaf) (.node none .leaf .leaf)) (.node (some [23, 57, 67]) (.node none .leaf .leaf) (.node none .leaf .leaf)))) (.node (some [57, 67]) (.node (some [23, 57, 67]) (.node (some [57, 67]) (.node none (.node none .leaf .leaf) .leaf) (.node none .leaf .leaf)) (.node (some [46, 57, 67]) (.node none .leaf .leaf) (.node none .leaf .leaf))) (.node (some [23, 57, 67]) (.node (some [46, 57, 67]) (.node (some [57, 67]) (.node none .leaf .leaf) .leaf) (.node none .leaf .leaf)) (.node (some [57, 67]) (.node none .leaf .leaf) (.node none .leaf .leaf))))))
noncomputable def vfull : List Nat := []
noncomputable def vlook : List Nat := []
theorem prim34 : OnePrim Try.prog vT (fun b => vG.get b) 34 (.lib libCount) := countS_prim Try.call34 fun s c w => Try.strings_Count_one s c w
theorem prim41 : OnePrim Try.prog vT (fun b => vG.get b) 41 (.builderString 5) := builderString_prim ⟨Try.call41, size_of (by kernel_rfl), run_string_nil, run_string⟩
theorem prim47 : OnePrim Try.prog vT (fun b => vG.get b) 47 (.copyCheck [(74, 2, 0), (75, 2, 0)]) := copyCheck_prim ⟨Try.call47, run_used, fun b o w e n h1 h2 h3 h4 h5 => run_fresh b o w e n h1 h2 h3 h4 (lies_of (by kernel_rfl) h5)⟩
theorem vP_ok : Tr.Every (fun f q => OnePrim Try.prog vT (fun b => vG.get b) f q) vP := (Tr.every_node noPrim (Tr.every_node noPrim (Tr.every_node noPrim (Tr.every_node noPrim (Tr.every_node noPrim (Tr.every_node noPrim (Tr.every_node noPrim Tr.every_leaf Tr.every_leaf) Tr.every_leaf) (Tr.every_node (onePrim prim47) Tr.every_leaf Tr.every_leaf)) (Tr.every_node noPrim (Tr.every_node noPrim (Tr.every_node noPrim Tr.every_leaf Tr.every_leaf) Tr.every_leaf) (Tr.every_node noPrim Tr.every_leaf Tr.every_leaf))) (Tr.every_node noPrim (Tr.every_node noPrim (Tr.every_node noPrim (Tr.every_node noPrim Tr.every_leaf Tr.every_leaf) Tr.every_leaf) (Tr.every_node noPrim Tr.every_leaf Tr.every_leaf)) (Tr.every_node noPrim (Tr.every_node noPrim Tr.every_leaf Tr.every_leaf) (Tr.every_node noPrim Tr.every_leaf Tr.every_leaf)))) (Tr.every_node noPrim (Tr.every_node noPrim (Tr.every_node noPrim (Tr.every_node noPrim (Tr.every_node noPrim Tr.every_leaf Tr.every_leaf) Tr.every_leaf) (Tr.every_node noPrim Tr.every_leaf Tr.every_leaf)) (Tr.every_node noPrim (Tr.every_node (onePrim prim41) Tr.every_leaf Tr.every_leaf) (Tr.every_node noPrim Tr.every_leaf Tr.every_leaf))) (Tr.every_node noPrim (Tr.every_node noPrim (Tr.every_node noPrim (Tr.every_node noPrim Tr.every_leaf Tr.every_leaf) Tr.every_leaf) (Tr.every_node noPrim Tr.every_leaf Tr.every_leaf)) (Tr.every_node noPrim (Tr.every_node noPrim Tr.every_leaf Tr.every_leaf) (Tr.every_node noPrim Tr.every_leaf Tr.every_leaf))))) (Tr.every_node noPrim (Tr.every_node noPrim (Tr.every_node noPrim (Tr.every_node noPrim (Tr.every_node noPrim (Tr.every_node noPrim Tr.every_leaf Tr.every_leaf) Tr.every_leaf) (Tr.every_node noPrim Tr.every_leaf Tr.every_leaf)) (Tr.every_node noPrim (Tr.every_node noPrim (Tr.every_node noPrim Tr.every_leaf Tr.every_leaf) Tr.every_leaf) (Tr.every_node noPrim Tr.every_leaf Tr.every_leaf))) (Tr.every_node noPrim (Tr.every_node noPrim (Tr.every_node noPrim (Tr.every_node noPrim Tr.every_leaf Tr.every_leaf) Tr.every_leaf) (Tr.every_node noPrim Tr.every_leaf Tr.every_leaf)) (Tr.every_node noPrim (Tr.every_node noPrim Tr.every_leaf Tr.every_leaf) (Tr.every_node noPrim Tr.every_leaf Tr.every_leaf)))) (Tr.every_node noPrim (Tr.every_node noPrim (Tr.every_node noPrim (Tr.every_node (onePrim prim34) (Tr.every_node noPrim Tr.every_leaf Tr.every_leaf) Tr.every_leaf) (Tr.every_node noPrim Tr.every_leaf Tr.every_leaf)) (Tr.every_node noPrim (Tr.every_node noPrim Tr.every_leaf Tr.every_leaf) (Tr.every_node noPrim Tr.every_leaf Tr.every_leaf))) (Tr.every_node noPrim (Tr.every_node noPrim (Tr.every_node noPrim (Tr.every_node noPrim Tr.every_leaf Tr.every_leaf) Tr.every_leaf) (Tr.every_node noPrim Tr.every_leaf Tr.every_leaf)) (Tr.every_node noPrim (Tr.every_node noPrim Tr.every_leaf Tr.every_leaf) (Tr.every_node noPrim Tr.every_leaf Tr.every_leaf))))))
noncomputable def vE : Env where
  T := vT
  F i := vF.get i
  prim i := vP.get i
  full i := vfull.any fun j => i.beq j
  isLook i := vlook.any fun j => i.beq j
  imm f t := match vI.get f with
    | some l => l.any fun j => t.beq j
    | none => false
  G b := vG.get b
  memo _ := []
theorem vE_ok : EnvOk Try.prog vE := ⟨vT_ok, fun f fn h => Tr.every_get vF _ vF_ok f fn h, primOk_of fun f q h => Tr.every_get vP _ vP_ok f q h, by kernel_rfl, fun _ _ h => by cases h⟩
end Go.Proofs.Ytdfofconhfhgdaa.Vm
set_option maxRecDepth 1000000
set_option maxHeartbeats 0
namespace Go.Proofs.Ytdfofconhfhgdaa.Vm
open Go Go.VM Go.Proofs
/-- rostrum/rostrumlaw03.RopeKept -/
noncomputable def g3 : AV → AV → AV → AV → AV → Option AV := fun x0 x1 x2 x3 x4 => asS x0 fun l0 => unA x1 fun l2 => unc l2 fun v3 l4 => asI .i64 v3 fun n5 => unc l4 fun v6 l7 => asI .i64 v6 fun n8 => un0 l7 (unA x2 fun
 l10 => unc l10 fun v11 l12 => asI .i64 v11 fun n13 => unc l12 fun v14 l15 => asI .i64 v14 fun n16 => un0 l15 (asS x3 fun l17 => asS x4 fun l18 => bindO (callS (orc vE) 7 [] (St.mk 0 0 Tr.leaf) fun v19 st20 _x => asB v19
 fun b22 => ifB (!b22) (some ([AV.bool true], st20)) (ifB (decide ((↑(List.length l0) : Int) > 5000)) (some ([AV.bool true], st20)) (ifB (decide ((↑(List.length l17) : Int) > 3000)) (some ([AV.bool true], st20)) (some
 ([AV.bool (decide ((↑(List.length l18) : Int) > 3000))], st20))))) fun c23 => unc (Prod.fst c23) fun v24 l25 => asB v24 fun b26 => un0 l25 (ifB b26 (callS (orc vE) 7 [] (Prod.snd c23) fun v27 _x _x_1 => asB v27 fun b30
 => some (AV.bool b30)) (callS (orc vE) 8 [AV.str l0] (Prod.snd c23) fun v31 st32 _x => unT v31 fun l34 => nthS l34 0 fun v35 => unT v31 fun l36 => nthS l36 1 fun v37 => asI .i64 v37 fun n38 => ifB (n38 != 0) (some
 (AV.bool false)) (callS (orc vE) 9 [v35, AV.agg [AV.int .i64 n5, AV.int .i64 n8], AV.str l17] st32 fun v40 st41 _x => unT v40 fun l43 => nthS l43 0 fun v44 => unT v40 fun l45 => nthS l45 1 fun v46 => asI .i64 v46 fun
 n47 => callS (orc vE) 10 [AV.str l0, AV.agg [AV.int .i64 n5, AV.int .i64 n8]] st41 fun v49 st50 _x => asB v49 fun b52 => ifB (!(n47 == 0) == b52) (some (AV.bool false)) (ifB (n47 != 0) (bindO (nilS (U.ptr 57) v44
 AV.nilp fun b53 => ifB b53 (callS (orc vE) 11 [v35] st50 fun v54 st55 _x => asS v54 fun l57 => some ([AV.bool (l57 == l0)], st55)) (some ([AV.bool false], st50))) fun c58 => unc (Prod.fst c58) fun v59 l60 => asB v59 fun
 b61 => un0 l60 (some (AV.bool b61))) (callS (orc vE) 12 [v35, AV.agg [AV.int .i64 n5, AV.int .i64 n8]] st50 fun v63 st64 _x => unT v63 fun l66 => nthS l66 0 fun v67 => asS v67 fun l68 => unT v63 fun l69 => nthS l69 1
 fun v70 => asI .i64 v70 fun n71 => letV (IntKind.wrap .i64 (n5 + (↑(List.length l17) : Int))) fun n72 => callS (orc vE) 13 [AV.int .i64 n5, AV.int .i64 n72] st64 fun v73 st74 _x => unA v73 fun l77 => unc l77 fun v78 l79
 => asI .i64 v78 fun n80 => unc l79 fun v81 l82 => asI .i64 v81 fun n83 => un0 l82 (callS (orc vE) 9 [v44, AV.agg [AV.int .i64 n80, AV.int .i64 n83], AV.str l68] st74 fun v84 st85 _x => unT v84 fun l87 => nthS l87 0 fun
 v88 => unT v84 fun l89 => nthS l89 1 fun v90 => asI .i64 v90 fun n91 => bindO (ifB (n71 != 0) (some ([AV.bool true], st85)) (ifB (n91 != 0) (some ([AV.bool true], st85)) (callS (orc vE) 11 [v88] st85 fun v92 st93 x94 =>
 asS v92 fun l95 => chk (apart x94 (Fx.mk [] Did.kept) && true) (ifB (!l95 == l0) (some ([AV.bool true], st93)) (callS (orc vE) 11 [v44] st93 fun v96 st97 x98 => asS v96 fun l99 => chk (apart x98 (Fx.mk [] Did.kept) &&
 true) (chk (apart x98 (Fx.mk [] Did.kept) && true) (chk (apart x98 (Fx.mk [] Did.kept) && true) (callS (orc vE) 14 [AV.str l0, AV.agg [AV.int .i64 n5, AV.int .i64 n8], AV.str l17] st97 fun v101 st102 _x => asS v101 fun
 l104 => ifB (!l99 == l104) (some ([AV.bool true], st102)) (callS (orc vE) 11 [v35] st102 fun v105 st106 x107 => asS v105 fun l108 => chk (apart x107 (Fx.mk [] Did.kept) && true) (some ([AV.bool !l108 == l0],
 st106))))))))))) fun c109 => unc (Prod.fst c109) fun v110 l111 => asB v110 fun b112 => un0 l111 (ifB b112 (some (AV.bool false)) (bindO (callS (orc vE) 10 [AV.str l0, AV.agg [AV.int .i64 n13, AV.int .i64 n16]] (Prod.snd
 c109) fun v114 st115 _x => asB v114 fun b117 => ifB (!b117) (some ([AV.bool true], st115)) (some ([AV.bool (decide (n8 > n13))], st115))) fun c118 => unc (Prod.fst c118) fun v119 l120 => asB v119 fun b121 => un0 l120
 (ifB b121 (some (AV.bool true)) (letV (IntKind.wrap .i64 (n8 - n5)) fun n122 => letV (IntKind.wrap .i64 ((↑(List.length l17) : Int) - n122)) fun n123 => letV (IntKind.wrap .i64 (n13 + n123)) fun n124 => letV
 (IntKind.wrap .i64 (n16 + n123)) fun n125 => callS (orc vE) 13 [AV.int .i64 n124, AV.int .i64 n125] (Prod.snd c118) fun v126 st127 _x => unA v126 fun l130 => unc l130 fun v131 l132 => asI .i64 v131 fun n133 => unc l132
 fun v134 l135 => asI .i64 v134 fun n136 => un0 l135 (callS (orc vE) 9 [v44, AV.agg [AV.int .i64 n133, AV.int .i64 n136], AV.str l18] st127 fun v137 st138 _x => unT v137 fun l140 => nthS l140 0 fun v141 => unT v137 fun
 l142 => nthS l142 1 fun v143 => asI .i64 v143 fun n144 => callS (orc vE) 9 [v35, AV.agg [AV.int .i64 n13, AV.int .i64 n16], AV.str l18] st138 fun v146 st147 _x => unT v146 fun l149 => nthS l149 0 fun v150 => unT v146
 fun l151 => nthS l151 1 fun v152 => asI .i64 v152 fun n153 => bindO (ifB (n144 != 0) (some ([AV.bool true], st147)) (some ([AV.bool (n153 != 0)], st147))) fun c154 => unc (Prod.fst c154) fun v155 l156 => asB v155 fun
 b157 => un0 l156 (ifB b157 (some (AV.bool false)) (callS (orc vE) 9 [v150, AV.agg [AV.int .i64 n5, AV.int .i64 n8], AV.str l17] (Prod.snd c154) fun v159 st160 _x => unT v159 fun l162 => nthS l162 0 fun v163 => unT v159
 fun l164 => nthS l164 1 fun v165 => asI .i64 v165 fun n166 => bindO (ifB (n166 == 0) (callS (orc vE) 11 [v141] st160 fun v167 st168 _x => asS v167 fun l170 => callS (orc vE) 11 [v163] st168 fun v171 st172 _x => asS v171
 fun l174 => ifB (l170 == l174) (callS (orc vE) 11 [v35] st172 fun v175 st176 _x => asS v175 fun l178 => some ([AV.bool (l178 == l0)], st176)) (some ([AV.bool false], st172))) (some ([AV.bool false], st160))) fun c179 =>
 unc (Prod.fst c179) fun v180 l181 => asB v180 fun b182 => un0 l181 (some (AV.bool b182)))))))))))))))))
theorem g3_eq (x0 x1 x2 x3 x4 : AV) : bareS vE 3 [x0, x1, x2, x3, x4] = g3 x0 x1 x2 x3 x4 := by kernel_rfl
/-- rostrum/rostrumlaw03.RopeLines -/
noncomputable def g4_L1 (l0 : List UInt8) (v18 : AV) : Car → Option (Car ⊕ Nat × Car) := fun c22 => unc (Prod.fst c22) fun v23 l24 => asB v23 fun b25 => unc l24 fun v26 l27 => asI .i64 v26 fun n28 => unc l27 fun v29 l30
 => asI .i64 v29 fun n31 => un0 l30 (callS (orc vE) 15 [v18] (Prod.snd c22) fun v32 st33 _x => asI .i64 v32 fun n35 => ifB (decide (n31 ≤ n35)) (callS (orc vE) 16 [v18, AV.int .i64 n31] st33 fun v36 st37 _x => unT v36
 fun l39 => nthS l39 0 fun v40 => asI .i64 v40 fun n41 => unT v36 fun l42 => nthS l42 1 fun v43 => asI .i64 v43 fun n44 => callS (orc vE) 17 [v18, AV.int .i64 n41] st37 fun v45 st46 _x => unT v45 fun l48 => nthS l48 0
 fun v49 => asI .i64 v49 fun n50 => unT v45 fun l51 => nthS l51 1 fun v52 => asI .i64 v52 fun n53 => bindO (ifB (n44 != 0) (some ([AV.bool true], st46)) (ifB (n53 != 0) (some ([AV.bool true], st46)) (ifB (n50 != n31)
 (some ([AV.bool true], st46)) (ifB (decide (n41 ≤ n28)) (some ([AV.bool true], st46)) (ifB (decide (n41 > (↑(List.length l0) : Int))) (some ([AV.bool true], st46)) (ifB (decide (n31 > 0)) (letV (IntKind.wrap .i64 (n41 -
 1)) fun n54 => idxStr l0 n54 fun c55 => some ([AV.bool ((↑(UInt8.toNat c55) : Int) != 10)], st46)) (some ([AV.bool false], st46)))))))) fun c56 => unc (Prod.fst c56) fun v57 l58 => asB v57 fun b59 => un0 l58 (ifB b59
 (some (Sum.inr (1, [AV.bool false], Prod.snd c56))) (letV (IntKind.wrap .i64 (n31 + 1)) fun n60 => some (Sum.inl ([AV.bool b25, AV.int .i64 n41, AV.int .i64 n60], Prod.snd c56))))) (some (Sum.inr (0, [AV.bool b25],
 st33))))
noncomputable def g4 : AV → AV → Option AV := fun x0 x1 => asS x0 fun l0 => asI .i64 x1 fun n1 => bindO (callS (orc vE) 7 [] (St.mk 0 0 Tr.leaf) fun v2 st3 _x => asB v2 fun b5 => ifB (!b5) (some ([AV.bool true], st3))
 (some ([AV.bool (decide ((↑(List.length l0) : Int) > 3000))], st3))) fun c6 => unc (Prod.fst c6) fun v7 l8 => asB v7 fun b9 => un0 l8 (ifB b9 (callS (orc vE) 7 [] (Prod.snd c6) fun v10 _x _x_1 => asB v10 fun b13 => some
 (AV.bool b13)) (callS (orc vE) 8 [AV.str l0] (Prod.snd c6) fun v14 st15 _x => unT v14 fun l17 => nthS l17 0 fun v18 => unT v14 fun l19 => nthS l19 1 fun v20 => asI .i64 v20 fun n21 => ifB (n21 != 0) (some (AV.bool
 false)) (bindO (loopO (g4_L1 l0 v18) ([AV.bool false, AV.int .i64 (-1), AV.int .i64 0], st15)) fun c61 => unc (Prod.fst (Prod.snd c61)) fun v62 l63 => asB v62 fun b64 => un0 l63 (sel2 (Prod.fst c61) (callS (orc vE) 17
 [v18, AV.int .i64 n1] (Prod.snd (Prod.snd c61)) fun v65 st66 _x => unT v65 fun l68 => nthS l68 0 fun v69 => asI .i64 v69 fun n70 => unT v65 fun l71 => nthS l71 1 fun v72 => asI .i64 v72 fun n73 => ifB (n73 != 0) (bindO
 (ifB (decide (n1 < 0)) (some ([AV.bool true], st66)) (some ([AV.bool (decide (n1 > (↑(List.length l0) : Int)))], st66))) fun c74 => unc (Prod.fst c74) fun v75 l76 => asB v75 fun b77 => un0 l76 (some (AV.bool b77)))
 (callS (orc vE) 16 [v18, AV.int .i64 n70] st66 fun v78 st79 _x => unT v78 fun l81 => nthS l81 0 fun v82 => asI .i64 v82 fun n83 => unT v78 fun l84 => nthS l84 1 fun v85 => asI .i64 v85 fun n86 => bindO (ifB (n86 == 0)
 (some ([AV.bool (decide (n83 ≤ n1))], st79)) (some ([AV.bool false], st79))) fun c87 => unc (Prod.fst c87) fun v88 l89 => asB v88 fun b90 => un0 l89 (some (AV.bool b90)))) fun _x => some (AV.bool b64)))))
theorem g4_eq (x0 x1 : AV) : bareS vE 4 [x0, x1] = g4 x0 x1 := by kernel_rfl
/-- rostrum/rostrumlaw03.RopeNames -/
noncomputable def g5_L1 : Car → Option (Car ⊕ Nat × Car) := fun c202 => unc (Prod.fst c202) fun v203 l204 => unc l204 fun v205 l206 => unc l206 fun v207 l208 => asB v207 fun b209 => unc l208 fun v210 l211 => asI .i64
 v210 fun n212 => un0 l211 (ifB (decide (n212 < 1500)) (callS (orc vE) 13 [AV.int .i64 n212, AV.int .i64 n212] (Prod.snd c202) fun v213 st214 x215 => unA v213 fun l217 => unc l217 fun v218 l219 => asI .i64 v218 fun n220
 => unc l219 fun v221 l222 => asI .i64 v221 fun n223 => un0 l222 (chk (apart (Fx.mk [] Did.kept) x215 && true) (chk (apart x215 (Fx.mk [] Did.kept) && true) (letV (Int.tmod n212 2) fun n224 => chk (apart x215 (Fx.mk []
 Did.kept) && true) (chk (apart x215 (Fx.mk [] Did.kept) && true) (letV (Int.tmod n212 2) fun n225 => chk (apart x215 (Fx.mk [] Did.kept) && true) (letV (IntKind.wrap .i64 (n225 + 1)) fun n226 => chk (apart x215 (Fx.mk
 [] Did.kept) && true) (uptoS n226 2 fun k227 => uptoS n224 k227 fun k228 => letV (List.drop k228 (List.take k227 [97, 10])) fun l229 => chk (apart x215 (Fx.mk [] Did.kept) && true) (callS (orc vE) 9 [v203, AV.agg
 [AV.int .i64 n220, AV.int .i64 n223], AV.str l229] st214 fun v230 st231 _x => unT v230 fun l233 => nthS l233 0 fun v234 => unT v230 fun l235 => nthS l235 1 fun v236 => asI .i64 v236 fun n237 => callS (orc vE) 13 [AV.int
 .i64 0, AV.int .i64 0] st231 fun v238 st239 _x => unA v238 fun l242 => unc l242 fun v243 l244 => asI .i64 v243 fun n245 => unc l244 fun v246 l247 => asI .i64 v246 fun n248 => un0 l247 (callS (orc vE) 9 [v205, AV.agg
 [AV.int .i64 n245, AV.int .i64 n248], AV.str [98]] st239 fun v249 st250 _x => unT v249 fun l252 => nthS l252 0 fun v253 => unT v249 fun l254 => nthS l254 1 fun v255 => asI .i64 v255 fun n256 => bindO (ifB (n237 != 0)
 (some ([AV.bool true], st250)) (ifB (n256 != 0) (some ([AV.bool true], st250)) (callS (orc vE) 20 [v234] st250 fun v257 st258 _x => asI .i64 v257 fun n260 => ifB (decide (n260 > 24)) (some ([AV.bool true], st258))
 (callS (orc vE) 20 [v253] st258 fun v261 st262 _x => asI .i64 v261 fun n264 => some ([AV.bool (decide (n264 > 24))], st262))))) fun c265 => unc (Prod.fst c265) fun v266 l267 => asB v266 fun b268 => un0 l267 (ifB b268
 (some (Sum.inr (1, [v234, AV.bool false], Prod.snd c265))) (letV (IntKind.wrap .i64 (n212 + 1)) fun n269 => some (Sum.inl ([v234, v253, AV.bool b209, AV.int .i64 n269], Prod.snd c265)))))))))))))) (some (Sum.inr (0,
 [v203, AV.bool b209], Prod.snd c202))))
noncomputable def g5_L2 (l280 : List UInt8) : Car → Option (Car ⊕ Nat × Car) := fun c281 => unc (Prod.fst c281) fun v282 l283 => unc l283 fun v284 l285 => asB v284 fun b286 => unc l285 fun v287 l288 => asI .i64 v287 fun
 n289 => un0 l288 (ifB (decide (n289 < 500)) (letV (IntKind.wrap .i64 (120 * n289)) fun n290 => letV (IntKind.wrap .i64 (120 * n289)) fun n291 => callS (orc vE) 13 [AV.int .i64 n290, AV.int .i64 n291] (Prod.snd c281) fun
 v292 st293 _x => unA v292 fun l296 => unc l296 fun v297 l298 => asI .i64 v297 fun n299 => unc l298 fun v300 l301 => asI .i64 v300 fun n302 => un0 l301 (callS (orc vE) 9 [v282, AV.agg [AV.int .i64 n299, AV.int .i64
 n302], AV.str l280] st293 fun v303 st304 _x => unT v303 fun l306 => nthS l306 0 fun v307 => unT v303 fun l308 => nthS l308 1 fun v309 => asI .i64 v309 fun n310 => bindO (ifB (n310 != 0) (some ([AV.bool true], st304))
 (callS (orc vE) 20 [v307] st304 fun v311 st312 _x => asI .i64 v311 fun n314 => some ([AV.bool (decide (n314 > 34))], st312))) fun c315 => unc (Prod.fst c315) fun v316 l317 => asB v316 fun b318 => un0 l317 (ifB b318
 (some (Sum.inr (1, [AV.bool false], Prod.snd c315))) (letV (IntKind.wrap .i64 (n289 + 1)) fun n319 => some (Sum.inl ([v307, AV.bool b286, AV.int .i64 n319], Prod.snd c315)))))) (some (Sum.inr (0, [AV.bool b286],
 Prod.snd c281))))
noncomputable def g5 : Option AV := callS (orc vE) 7 [] (St.mk 0 0 Tr.leaf) fun v0 st1 _x => asB v0 fun b3 => ifB (!b3) (some (AV.bool false)) (callS (orc vE) 18 [AV.int .i64 65536, AV.str [120]] st1 fun v4 st5 _x =>
 asS v4 fun l7 => callS (orc vE) 8 [AV.str l7] st5 fun v8 st9 _x => unT v8 fun l11 => nthS l11 0 fun v12 => unT v8 fun l13 => nthS l13 1 fun v14 => asI .i64 v14 fun n15 => callS (orc vE) 18 [AV.int .i64 65537, AV.str
 [120]] st9 fun v16 st17 _x => asS v16 fun l19 => callS (orc vE) 8 [AV.str l19] st17 fun v20 st21 _x => unT v20 fun l23 => nthS l23 0 fun _x => unT v20 fun l25 => nthS l25 1 fun v26 => asI .i64 v26 fun n27 => callS (orc
 vE) 13 [AV.int .i64 0, AV.int .i64 0] st21 fun v28 st29 _x => unA v28 fun l32 => unc l32 fun v33 l34 => asI .i64 v33 fun n35 => unc l34 fun v36 l37 => asI .i64 v36 fun n38 => un0 l37 (callS (orc vE) 9 [v12, AV.agg
 [AV.int .i64 n35, AV.int .i64 n38], AV.str [121]] st29 fun v39 st40 _x => unT v39 fun l42 => nthS l42 0 fun _x => unT v39 fun l44 => nthS l44 1 fun v45 => asI .i64 v45 fun n46 => callS (orc vE) 13 [AV.int .i64 0, AV.int
 .i64 1] st40 fun v47 st48 _x => unA v47 fun l51 => unc l51 fun v52 l53 => asI .i64 v52 fun n54 => unc l53 fun v55 l56 => asI .i64 v55 fun n57 => un0 l56 (callS (orc vE) 9 [v12, AV.agg [AV.int .i64 n54, AV.int .i64 n57],
 AV.str [121]] st48 fun v58 st59 _x => unT v58 fun l61 => nthS l61 0 fun v62 => unT v58 fun l63 => nthS l63 1 fun v64 => asI .i64 v64 fun n65 => callS (orc vE) 13 [AV.int .i64 1, AV.int .i64 2] st59 fun v66 st67 _x =>
 unA v66 fun l70 => unc l70 fun v71 l72 => asI .i64 v71 fun n73 => unc l72 fun v74 l75 => asI .i64 v74 fun n76 => un0 l75 (callS (orc vE) 18 [AV.int .i64 65537, AV.str [121]] st67 fun v77 st78 _x => asS v77 fun l80 =>
 callS (orc vE) 9 [v12, AV.agg [AV.int .i64 n73, AV.int .i64 n76], AV.str l80] st78 fun v81 st82 _x => unT v81 fun l84 => nthS l84 0 fun _x => unT v81 fun l86 => nthS l86 1 fun v87 => asI .i64 v87 fun n88 => callS (orc
 vE) 13 [AV.int .i64 0, AV.int .i64 65536] st82 fun v89 st90 _x => unA v89 fun l93 => unc l93 fun v94 l95 => asI .i64 v94 fun n96 => unc l95 fun v97 l98 => asI .i64 v97 fun n99 => un0 l98 (callS (orc vE) 9 [v12, AV.agg
 [AV.int .i64 n96, AV.int .i64 n99], AV.str []] st90 fun v100 st101 _x => unT v100 fun l103 => nthS l103 0 fun v104 => unT v100 fun l105 => nthS l105 1 fun v106 => asI .i64 v106 fun n107 => callS (orc vE) 13 [AV.int .i64
 0, AV.int .i64 65537] st101 fun v108 st109 _x => unA v108 fun l112 => unc l112 fun v113 l114 => asI .i64 v113 fun n115 => unc l114 fun v116 l117 => asI .i64 v116 fun n118 => un0 l117 (callS (orc vE) 9 [v12, AV.agg
 [AV.int .i64 n115, AV.int .i64 n118], AV.str []] st109 fun v119 st120 _x => unT v119 fun l122 => nthS l122 0 fun _x => unT v119 fun l124 => nthS l124 1 fun v125 => asI .i64 v125 fun n126 => callS (orc vE) 13 [AV.int
 .i64 (-1), AV.int .i64 0] st120 fun v127 st128 _x => unA v127 fun l131 => unc l131 fun v132 l133 => asI .i64 v132 fun n134 => unc l133 fun v135 l136 => asI .i64 v135 fun n137 => un0 l136 (callS (orc vE) 9 [v12, AV.agg
 [AV.int .i64 n134, AV.int .i64 n137], AV.str []] st128 fun v138 st139 _x => unT v138 fun l141 => nthS l141 0 fun _x => unT v138 fun l143 => nthS l143 1 fun v144 => asI .i64 v144 fun n145 => callS (orc vE) 17 [v104,
 AV.int .i64 (-1)] st139 fun v146 st147 _x => unT v146 fun l149 => nthS l149 0 fun v150 => asI .i64 v150 fun _x => unT v146 fun l152 => nthS l152 1 fun v153 => asI .i64 v153 fun n154 => callS (orc vE) 17 [v104, AV.int
 .i64 0] st147 fun v155 st156 _x => unT v155 fun l158 => nthS l158 0 fun v159 => asI .i64 v159 fun n160 => unT v155 fun l161 => nthS l161 1 fun v162 => asI .i64 v162 fun n163 => callS (orc vE) 16 [v104, AV.int .i64 0]
 st156 fun v164 st165 _x => unT v164 fun l167 => nthS l167 0 fun v168 => asI .i64 v168 fun n169 => unT v164 fun l170 => nthS l170 1 fun v171 => asI .i64 v171 fun n172 => callS (orc vE) 16 [v104, AV.int .i64 (-1)] st165
 fun v173 st174 _x => unT v173 fun l176 => nthS l176 0 fun v177 => asI .i64 v177 fun _x => unT v173 fun l179 => nthS l179 1 fun v180 => asI .i64 v180 fun n181 => bindO (ifB (n15 != 0) (some ([AV.bool true], st174)) (ifB
 (n27 != 40) (some ([AV.bool true], st174)) (ifB (n46 != 40) (some ([AV.bool true], st174)) (ifB (n65 != 0) (some ([AV.bool true], st174)) (callS (orc vE) 19 [v62] st174 fun v182 st183 _x => asI .i64 v182 fun n185 => ifB
 (n185 != 65536) (some ([AV.bool true], st183)) (ifB (n88 != 40) (some ([AV.bool true], st183)) (ifB (n107 != 0) (some ([AV.bool true], st183)) (callS (orc vE) 19 [v104] st183 fun v186 st187 _x => asI .i64 v186 fun n189
 => ifB (n189 != 0) (some ([AV.bool true], st187)) (callS (orc vE) 20 [v104] st187 fun v190 st191 _x => asI .i64 v190 fun n193 => ifB (n193 != 0) (some ([AV.bool true], st191)) (ifB (n126 != 1) (some ([AV.bool true],
 st191)) (ifB (n145 != 1) (some ([AV.bool true], st191)) (ifB (n154 != 1) (some ([AV.bool true], st191)) (ifB (n160 != 0) (some ([AV.bool true], st191)) (ifB (n163 != 0) (some ([AV.bool true], st191)) (ifB (n169 != 0)
 (some ([AV.bool true], st191)) (ifB (n172 != 0) (some ([AV.bool true], st191)) (ifB (n181 != 1) (some ([AV.bool true], st191)) (callS (orc vE) 20 [v12] st191 fun v194 st195 _x => asI .i64 v194 fun n197 => some ([AV.bool
 (decide (n197 > 36))], st195))))))))))))))))))) fun c198 => unc (Prod.fst c198) fun v199 l200 => asB v199 fun b201 => un0 l200 (ifB b201 (some (AV.bool false)) (bindO (loopO g5_L1 ([v104, v104, AV.bool false, AV.int
 .i64 0], Prod.snd c198)) fun c270 => unc (Prod.fst (Prod.snd c270)) fun v271 l272 => unc l272 fun v273 l274 => asB v273 fun b275 => un0 l274 (sel2 (Prod.fst c270) (callS (orc vE) 18 [AV.int .i64 119, AV.str [112]]
 (Prod.snd (Prod.snd c270)) fun v276 st277 _x => asS v276 fun l279 => chk (Nat.ble ((List.length l279 + 1)) 9223372036854775807) (letV (l279 ++ [10]) fun l280 => bindO (loopO (g5_L2 l280) ([v104, AV.bool b275, AV.int
 .i64 0], st277)) fun c320 => unc (Prod.fst (Prod.snd c320)) fun v321 l322 => asB v321 fun b323 => un0 l322 (sel2 (Prod.fst c320) (callS (orc vE) 16 [v271, AV.int .i64 700] (Prod.snd (Prod.snd c320)) fun v324 st325 _x =>
 unT v324 fun l327 => nthS l327 0 fun v328 => asI .i64 v328 fun n329 => unT v324 fun l330 => nthS l330 1 fun v331 => asI .i64 v331 fun n332 => callS (orc vE) 13 [AV.int .i64 0, AV.int .i64 0] st325 fun v333 st334 _x =>
 unA v333 fun l337 => unc l337 fun v338 l339 => asI .i64 v338 fun n340 => unc l339 fun v341 l342 => asI .i64 v341 fun n343 => un0 l342 (callS (orc vE) 12 [AV.nilp, AV.agg [AV.int .i64 n340, AV.int .i64 n343]] st334 fun
 v344 st345 _x => unT v344 fun l347 => nthS l347 0 fun v348 => asS v348 fun _x => unT v344 fun l350 => nthS l350 1 fun v351 => asI .i64 v351 fun n352 => callS (orc vE) 13 [AV.int .i64 0, AV.int .i64 0] st345 fun v353
 st354 _x => unA v353 fun l357 => unc l357 fun v358 l359 => asI .i64 v358 fun n360 => unc l359 fun v361 l362 => asI .i64 v361 fun n363 => un0 l362 (callS (orc vE) 9 [AV.nilp, AV.agg [AV.int .i64 n360, AV.int .i64 n363],
 AV.str []] st354 fun v364 st365 _x => unT v364 fun l367 => nthS l367 0 fun _x => unT v364 fun l369 => nthS l369 1 fun v370 => asI .i64 v370 fun n371 => callS (orc vE) 16 [AV.nilp, AV.int .i64 0] st365 fun v372 st373 _x
 => unT v372 fun l375 => nthS l375 0 fun v376 => asI .i64 v376 fun _x => unT v372 fun l378 => nthS l378 1 fun v379 => asI .i64 v379 fun n380 => callS (orc vE) 17 [AV.nilp, AV.int .i64 0] st373 fun v381 st382 _x => unT
 v381 fun l384 => nthS l384 0 fun v385 => asI .i64 v385 fun _x => unT v381 fun l387 => nthS l387 1 fun v388 => asI .i64 v388 fun n389 => bindO (callS (orc vE) 15 [v271] st382 fun v390 st391 _x => asI .i64 v390 fun n393
 => ifB (n393 == 750) (ifB (n329 == 1400) (ifB (n332 == 0) (ifB (n352 == 2) (ifB (n371 == 2) (ifB (n380 == 2) (ifB (n389 == 2) (callS (orc vE) 19 [AV.nilp] st391 fun v394 st395 _x => asI .i64 v394 fun n397 => callS (orc
 vE) 15 [AV.nilp] st395 fun v398 st399 _x => asI .i64 v398 fun n401 => letV (IntKind.wrap .i64 (n397 + n401)) fun n402 => callS (orc vE) 20 [AV.nilp] st399 fun v403 st404 _x => asI .i64 v403 fun n406 => letV
 (IntKind.wrap .i64 (n402 + n406)) fun n407 => callS (orc vE) 11 [AV.nilp] st404 fun v408 st409 _x => asS v408 fun l411 => letV (IntKind.wrap .i64 (n407 + (↑(List.length l411) : Int))) fun n412 => some ([AV.bool (n412 ==
 0)], st409)) (some ([AV.bool false], st391))) (some ([AV.bool false], st391))) (some ([AV.bool false], st391))) (some ([AV.bool false], st391))) (some ([AV.bool false], st391))) (some ([AV.bool false], st391))) (some
 ([AV.bool false], st391))) fun c413 => unc (Prod.fst c413) fun v414 l415 => asB v414 fun b416 => un0 l415 (some (AV.bool b416))))) fun _x => some (AV.bool b323)))) fun _x => some (AV.bool b275)))))))))))
theorem g5_eq : bareS vE 5 [] = g5 := by kernel_rfl
/-- rostrum/rostrumlaw03.RopePlays -/
noncomputable def g6_L1 (x1 : AV) : Car → Option (Car ⊕ Nat × Car) := fun c24 => unc (Prod.fst c24) fun v25 l26 => unc l26 fun v27 l28 => unc l28 fun v29 l30 => asB v29 fun b31 => unc l30 fun v32 l33 => asI .i64 v32 fun
 n34 => un0 l33 (lenS x1 fun k35 => ifB (decide (n34 < (↑k35 : Int))) (idxA 6 x1 n34 (Prod.snd c24) fun v36 _x => fldA 1 v36 fun v38 => loadS 1 false v38 (Prod.snd c24) fun v39 _x => asI .i64 v39 fun n41 => letV
 (IntKind.wrap .u64 n41) fun n42 => lenS v25 fun k43 => letV (IntKind.wrap .u64 (↑k43 : Int)) fun n44 => chk (!decide (n44 = 0)) (letV (Int.tmod n42 n44) fun n45 => letV (IntKind.wrap .i64 n45) fun n46 => idxA 6 x1 n34
 (Prod.snd c24) fun v47 _x => fldA 0 v47 fun v49 => loadS 1 false v49 (Prod.snd c24) fun v50 _x => asI .u8 v50 fun n52 => bindO (ifB (n52 == 0) (idxA 1 v25 n46 (Prod.snd c24) fun v53 _x => loadS 1 false v53 (Prod.snd
 c24) fun v55 _x => idxA 6 x1 n34 (Prod.snd c24) fun v57 _x => fldA 2 v57 fun v59 => loadS 2 true v59 (Prod.snd c24) fun v60 _x => unA v60 fun l63 => unc l63 fun v64 l65 => asI .i64 v64 fun n66 => unc l65 fun v67 l68 =>
 asI .i64 v67 fun n69 => un0 l68 (idxA 6 x1 n34 (Prod.snd c24) fun v70 _x => fldA 4 v70 fun v72 => loadS 1 false v72 (Prod.snd c24) fun v73 _x => asS v73 fun l75 => callS (orc vE) 9 [v55, AV.agg [AV.int .i64 n66, AV.int
 .i64 n69], AV.str l75] (Prod.snd c24) fun v76 st77 _x => unT v76 fun l79 => nthS l79 0 fun v80 => unT v76 fun l81 => nthS l81 1 fun v82 => asI .i64 v82 fun n83 => idxA 1 v27 n46 st77 fun v84 l85 => loadS 1 true v84 st77
 fun v86 l87 => unA v86 fun l89 => unc l89 fun v90 l91 => asS v90 fun l92 => un0 l91 (idxA 6 x1 n34 st77 fun v93 l94 => fldA 2 v93 fun v95 => loadS 2 true v95 st77 fun v96 l97 => unA v96 fun l99 => unc l99 fun v100 l101
 => asI .i64 v100 fun n102 => unc l101 fun v103 l104 => asI .i64 v103 fun n105 => un0 l104 (idxA 6 x1 n34 st77 fun v106 l107 => fldA 4 v106 fun v108 => loadS 1 false v108 st77 fun v109 l110 => asS v109 fun l111 => callS
 (orc vE) 23 [AV.agg [AV.str l92], AV.agg [AV.int .i64 n102, AV.int .i64 n105], AV.str l111] st77 fun v112 st113 x114 => unT v112 fun l115 => nthS l115 0 fun v116 => unA v116 fun l118 => unc l118 fun v119 l120 => asS
 v119 fun l121 => un0 l120 (unT v112 fun l122 => nthS l122 1 fun v123 => asI .i64 v123 fun n124 => letSt (St.add st113 (VM.Obj.cells 46 [AV.str []])) fun st125 => chk (apart x114 (Fx.mk [] (Did.made (St.h st113)
 (VM.Obj.cells 46 [AV.str []]))) && (apart (Fx.mk l110 Did.kept) (Fx.mk [] (Did.made (St.h st113) (VM.Obj.cells 46 [AV.str []]))) && (apart (Fx.mk l107 Did.kept) (Fx.mk [] (Did.made (St.h st113) (VM.Obj.cells 46 [AV.str
 []]))) && (apart (Fx.mk l97 Did.kept) (Fx.mk [] (Did.made (St.h st113) (VM.Obj.cells 46 [AV.str []]))) && (apart (Fx.mk l94 Did.kept) (Fx.mk [] (Did.made (St.h st113) (VM.Obj.cells 46 [AV.str []]))) && (apart (Fx.mk l87
 Did.kept) (Fx.mk [] (Did.made (St.h st113) (VM.Obj.cells 46 [AV.str []]))) && (apart (Fx.mk l85 Did.kept) (Fx.mk [] (Did.made (St.h st113) (VM.Obj.cells 46 [AV.str []]))) && true))))))) (storeS (orc vE) 1 (AV.mp (St.h
 st113) 0) (AV.agg [AV.str l121]) [AV.str l121] st125 fun _x st127 x128 => chk (apart (Fx.mk [] Did.kept) x128 && true) (bindO (ifB (n83 != n124) (some ([AV.bool true], st127)) (nilS (U.ptr 57) v80 AV.nilp fun b129 =>
 some ([AV.bool !b129 == (n124 != 0)], st127))) fun c130 => unc (Prod.fst c130) fun v131 l132 => asB v131 fun b133 => un0 l132 (ifB b133 (some (Sum.inr (Sum.inr (1, [v25, v27, AV.bool false], Prod.snd c130)))) (bindO
 (ifB (n124 == 0) (asOne v80 (asOne v80 (fit1 v80 fun v134 => fit1 v134 fun v135 => chk (sizesOk 1 [v135]) (appS 1 8 25 v25 [v135] (Prod.snd c130) fun v136 st137 _x => loadS 1 true (AV.mp (St.h st113) 0) st137 fun v139
 _x => unA v139 fun l142 => unc l142 fun v143 l144 => asS v143 fun l145 => un0 l144 (appS 1 16 46 v27 [AV.agg [AV.str l145]] st137 fun v146 st147 _x => loadS 1 true (AV.mp (St.h st113) 0) st147 fun v149 _x => unA v149
 fun l152 => unc l152 fun v153 l154 => asS v153 fun l155 => un0 l154 (callS (orc vE) 22 [v80, AV.agg [AV.str l155]] st147 fun v156 st157 _x => asB v156 fun b159 => ifB (!b159) (some (Sum.inr (Sum.inr (Sum.inr (1, [v136,
 v146, AV.bool false], st157))))) (some (Sum.inl ([v136, v146, AV.bool b31], st157))))))))) (some (Sum.inl ([v25, v27, AV.bool b31], Prod.snd c130)))) fun c160 => onSum c160 fun c161 => unc (Prod.fst c161) fun v162 l163
 => unc l163 fun v164 l165 => unc l165 fun v166 l167 => asB v166 fun b168 => un0 l167 (some (Sum.inl ([v162, v164, AV.bool b168], Prod.snd c161)))))))))))) (bindO (ifB (n52 == 1) (idxA 1 v25 n46 (Prod.snd c24) fun v169
 _x => loadS 1 false v169 (Prod.snd c24) fun v171 _x => idxA 6 x1 n34 (Prod.snd c24) fun v173 _x => fldA 2 v173 fun v175 => loadS 2 true v175 (Prod.snd c24) fun v176 _x => unA v176 fun l179 => unc l179 fun v180 l181 =>
 asI .i64 v180 fun n182 => unc l181 fun v183 l184 => asI .i64 v183 fun n185 => un0 l184 (callS (orc vE) 12 [v171, AV.agg [AV.int .i64 n182, AV.int .i64 n185]] (Prod.snd c24) fun v186 st187 _x => unT v186 fun l189 => nthS
 l189 0 fun v190 => asS v190 fun l191 => unT v186 fun l192 => nthS l192 1 fun v193 => asI .i64 v193 fun n194 => idxA 1 v27 n46 st187 fun v195 _x => loadS 1 true v195 st187 fun v197 _x => unA v197 fun l200 => unc l200 fun
 v201 l202 => asS v201 fun l203 => un0 l202 (idxA 6 x1 n34 st187 fun v204 _x => fldA 2 v204 fun v206 => loadS 2 true v206 st187 fun v207 _x => unA v207 fun l210 => unc l210 fun v211 l212 => asI .i64 v211 fun n213 => unc
 l212 fun v214 l215 => asI .i64 v214 fun n216 => un0 l215 (callS (orc vE) 24 [AV.agg [AV.str l203], AV.agg [AV.int .i64 n213, AV.int .i64 n216]] st187 fun v217 st218 _x => unT v217 fun l220 => nthS l220 0 fun v221 => asS
 v221 fun l222 => unT v217 fun l223 => nthS l223 1 fun v224 => asI .i64 v224 fun n225 => bindO (ifB (!l191 == l222) (some ([AV.bool true], st218)) (some ([AV.bool (n194 != n225)], st218))) fun c226 => unc (Prod.fst c226)
 fun v227 l228 => asB v227 fun b229 => un0 l228 (ifB b229 (some (Sum.inr (Sum.inr (Sum.inr (1, [v25, v27, AV.bool false], Prod.snd c226))))) (some (Sum.inl ([AV.bool b31], Prod.snd c226)))))))) (bindO (ifB (n52 == 2)
 (idxA 1 v25 n46 (Prod.snd c24) fun v230 _x => loadS 1 false v230 (Prod.snd c24) fun v232 _x => idxA 6 x1 n34 (Prod.snd c24) fun v234 _x => fldA 5 v234 fun v236 => loadS 1 false v236 (Prod.snd c24) fun v237 _x => asI
 .i64 v237 fun n239 => callS (orc vE) 16 [v232, AV.int .i64 n239] (Prod.snd c24) fun v240 st241 _x => unT v240 fun l243 => nthS l243 0 fun v244 => asI .i64 v244 fun n245 => unT v240 fun l246 => nthS l246 1 fun v247 =>
 asI .i64 v247 fun n248 => idxA 1 v27 n46 st241 fun v249 _x => loadS 1 true v249 st241 fun v251 _x => unA v251 fun l254 => unc l254 fun v255 l256 => asS v255 fun l257 => un0 l256 (idxA 6 x1 n34 st241 fun v258 _x => fldA
 5 v258 fun v260 => loadS 1 false v260 st241 fun v261 _x => asI .i64 v261 fun n263 => callS (orc vE) 25 [AV.agg [AV.str l257], AV.int .i64 n263] st241 fun v264 st265 _x => unT v264 fun l267 => nthS l267 0 fun v268 => asI
 .i64 v268 fun n269 => unT v264 fun l270 => nthS l270 1 fun v271 => asI .i64 v271 fun n272 => bindO (ifB (n245 != n269) (some ([AV.bool true], st265)) (some ([AV.bool (n248 != n272)], st265))) fun c273 => unc (Prod.fst
 c273) fun v274 l275 => asB v274 fun b276 => un0 l275 (ifB b276 (some (Sum.inr (Sum.inr (Sum.inr (Sum.inr (1, [v25, v27, AV.bool false], Prod.snd c273)))))) (some (Sum.inl ([AV.bool b31], Prod.snd c273)))))) (idxA 1 v25
 n46 (Prod.snd c24) fun v277 _x => loadS 1 false v277 (Prod.snd c24) fun v279 _x => idxA 6 x1 n34 (Prod.snd c24) fun v281 _x => fldA 5 v281 fun v283 => loadS 1 false v283 (Prod.snd c24) fun v284 _x => asI .i64 v284 fun
 n286 => callS (orc vE) 17 [v279, AV.int .i64 n286] (Prod.snd c24) fun v287 st288 _x => unT v287 fun l290 => nthS l290 0 fun v291 => asI .i64 v291 fun n292 => unT v287 fun l293 => nthS l293 1 fun v294 => asI .i64 v294
 fun n295 => idxA 1 v27 n46 st288 fun v296 _x => loadS 1 true v296 st288 fun v298 _x => unA v298 fun l301 => unc l301 fun v302 l303 => asS v302 fun l304 => un0 l303 (idxA 6 x1 n34 st288 fun v305 _x => fldA 5 v305 fun
 v307 => loadS 1 false v307 st288 fun v308 _x => asI .i64 v308 fun n310 => callS (orc vE) 26 [AV.agg [AV.str l304], AV.int .i64 n310] st288 fun v311 st312 _x => unT v311 fun l314 => nthS l314 0 fun v315 => asI .i64 v315
 fun n316 => unT v311 fun l317 => nthS l317 1 fun v318 => asI .i64 v318 fun n319 => bindO (ifB (n292 != n316) (some ([AV.bool true], st312)) (some ([AV.bool (n295 != n319)], st312))) fun c320 => unc (Prod.fst c320) fun
 v321 l322 => asB v321 fun b323 => un0 l322 (ifB b323 (some (Sum.inr (Sum.inr (Sum.inr (Sum.inr (1, [v25, v27, AV.bool false], Prod.snd c320)))))) (some (Sum.inl ([AV.bool b31], Prod.snd c320))))))) fun c324 => onSum
 c324 fun c325 => unc (Prod.fst c325) fun v326 l327 => asB v326 fun b328 => un0 l327 (some (Sum.inl ([AV.bool b328], Prod.snd c325))))) fun c329 => onSum c329 fun c330 => unc (Prod.fst c330) fun v331 l332 => asB v331 fun
 b333 => un0 l332 (some (Sum.inl ([v25, v27, AV.bool b333], Prod.snd c330))))) fun c334 => onSum c334 fun c335 => unc (Prod.fst c335) fun v336 l337 => unc l337 fun v338 l339 => unc l339 fun v340 l341 => asB v340 fun b342
 => un0 l341 (letV (IntKind.wrap .i64 (n34 + 1)) fun n343 => some (Sum.inl ([v336, v338, AV.bool b342, AV.int .i64 n343], Prod.snd c335))))) (some (Sum.inr (0, [v25, v27, AV.bool b31], Prod.snd c24))))
noncomputable def g6_L2 (v345 : AV) (v347 : AV) : Car → Option (Car ⊕ Nat × Car) := fun c352 => unc (Prod.fst c352) fun v353 l354 => asB v353 fun b355 => unc l354 fun v356 l357 => asI .i64 v356 fun n358 => un0 l357
 (lenS v345 fun k359 => ifB (decide (n358 < (↑k359 : Int))) (idxA 1 v345 n358 (Prod.snd c352) fun v360 _x => loadS 1 false v360 (Prod.snd c352) fun v362 _x => idxA 1 v347 n358 (Prod.snd c352) fun v364 _x => loadS 1 true
 v364 (Prod.snd c352) fun v366 _x => unA v366 fun l369 => unc l369 fun v370 l371 => asS v370 fun l372 => un0 l371 (callS (orc vE) 22 [v362, AV.agg [AV.str l372]] (Prod.snd c352) fun v373 st374 _x => asB v373 fun b376 =>
 ifB (!b376) (some (Sum.inr (1, [AV.bool false], st374))) (letV (IntKind.wrap .i64 (n358 + 1)) fun n377 => some (Sum.inl ([AV.bool b355, AV.int .i64 n377], st374))))) (some (Sum.inr (0, [AV.bool b355], Prod.snd c352))))
noncomputable def g6 : AV → AV → Option AV := fun x0 x1 => asS x0 fun l0 => callS (orc vE) 21 [AV.str l0, x1] (St.mk 0 0 Tr.leaf) fun v1 st2 _x => asB v1 fun b4 => ifB b4 (some (AV.bool true)) (callS (orc vE) 8 [AV.str
 l0] st2 fun v5 st6 _x => unT v5 fun l8 => nthS l8 0 fun v9 => unT v5 fun l10 => nthS l10 1 fun v11 => asI .i64 v11 fun n12 => bindO (ifB (n12 != 0) (some ([AV.bool true], st6)) (callS (orc vE) 22 [v9, AV.agg [AV.str
 l0]] st6 fun v14 st15 _x => asB v14 fun b17 => some ([AV.bool !b17], st15))) fun c18 => unc (Prod.fst c18) fun v19 l20 => asB v19 fun b21 => un0 l20 (ifB b21 (some (AV.bool false)) (asOne v9 (asOne v9 (fit1 v9 fun v22
 => bindO (loopO (g6_L1 x1) ([AV.sl 1 [v22] Perm.shut, AV.sl 1 [AV.agg [AV.str l0]] Perm.shut, AV.bool false, AV.int .i64 0], Prod.snd c18)) fun c344 => unc (Prod.fst (Prod.snd c344)) fun v345 l346 => unc l346 fun v347
 l348 => unc l348 fun v349 l350 => asB v349 fun b351 => un0 l350 (sel2 (Prod.fst c344) (bindO (loopO (g6_L2 v345 v347) ([AV.bool b351, AV.int .i64 0], Prod.snd (Prod.snd c344))) fun c378 => unc (Prod.fst (Prod.snd c378))
 fun v379 l380 => asB v379 fun b381 => un0 l380 (sel2 (Prod.fst c378) (some (AV.bool true)) fun _x => some (AV.bool b381))) fun _x => some (AV.bool b351)))))))
theorem g6_eq (x0 x1 : AV) : bareS vE 6 [x0, x1] = g6 x0 x1 := by kernel_rfl
/-- rostrum/rostrumlaw03.works -/
noncomputable def g7 : Option AV := callS (orc vE) 8 [AV.str [111, 110, 101, 10, 116, 119, 111, 10]] (St.mk 0 0 Tr.leaf) fun v0 st1 _x => unT v0 fun l3 => nthS l3 0 fun v4 => unT v0 fun l5 => nthS l5 1 fun v6 => asI
 .i64 v6 fun n7 => bindO (ifB (n7 != 0) (some ([AV.bool true], st1)) (nilS (U.ptr 57) v4 AV.nilp fun b8 => some ([AV.bool b8], st1))) fun c9 => unc (Prod.fst c9) fun v10 l11 => asB v10 fun b12 => un0 l11 (ifB b12 (some
 (AV.bool false)) (callS (orc vE) 16 [v4, AV.int .i64 1] (Prod.snd c9) fun v13 st14 _x => unT v13 fun l16 => nthS l16 0 fun v17 => asI .i64 v17 fun n18 => unT v13 fun l19 => nthS l19 1 fun v20 => asI .i64 v20 fun n21 =>
 callS (orc vE) 16 [v4, AV.int .i64 2] st14 fun v22 st23 _x => unT v22 fun l25 => nthS l25 0 fun v26 => asI .i64 v26 fun n27 => unT v22 fun l28 => nthS l28 1 fun v29 => asI .i64 v29 fun n30 => callS (orc vE) 16 [v4,
 AV.int .i64 3] st23 fun v31 st32 _x => unT v31 fun l34 => nthS l34 0 fun v35 => asI .i64 v35 fun _x => unT v31 fun l37 => nthS l37 1 fun v38 => asI .i64 v38 fun n39 => callS (orc vE) 17 [v4, AV.int .i64 4] st32 fun v40
 st41 _x => unT v40 fun l43 => nthS l43 0 fun v44 => asI .i64 v44 fun n45 => unT v40 fun l46 => nthS l46 1 fun v47 => asI .i64 v47 fun n48 => callS (orc vE) 17 [v4, AV.int .i64 3] st41 fun v49 st50 _x => unT v49 fun l52
 => nthS l52 0 fun v53 => asI .i64 v53 fun n54 => unT v49 fun l55 => nthS l55 1 fun v56 => asI .i64 v56 fun n57 => callS (orc vE) 13 [AV.int .i64 3, AV.int .i64 4] st50 fun v58 st59 _x => unA v58 fun l62 => unc l62 fun
 v63 l64 => asI .i64 v63 fun n65 => unc l64 fun v66 l67 => asI .i64 v66 fun n68 => un0 l67 (callS (orc vE) 9 [v4, AV.agg [AV.int .i64 n65, AV.int .i64 n68], AV.str [45, 45]] st59 fun v69 st70 _x => unT v69 fun l72 =>
 nthS l72 0 fun v73 => unT v69 fun l74 => nthS l74 1 fun v75 => asI .i64 v75 fun n76 => callS (orc vE) 13 [AV.int .i64 5, AV.int .i64 3] st70 fun v77 st78 _x => unA v77 fun l81 => unc l81 fun v82 l83 => asI .i64 v82 fun
 n84 => unc l83 fun v85 l86 => asI .i64 v85 fun n87 => un0 l86 (callS (orc vE) 12 [v4, AV.agg [AV.int .i64 n84, AV.int .i64 n87]] st78 fun v88 st89 _x => unT v88 fun l91 => nthS l91 0 fun v92 => asS v92 fun _x => unT v88
 fun l94 => nthS l94 1 fun v95 => asI .i64 v95 fun n96 => bindO (callS (orc vE) 19 [v4] st89 fun v97 st98 _x => asI .i64 v97 fun n100 => ifB (n100 == 8) (callS (orc vE) 15 [v4] st98 fun v101 st102 _x => asI .i64 v101 fun
 n104 => ifB (n104 == 2) (ifB (n18 == 4) (ifB (n21 == 0) (ifB (n27 == 8) (ifB (n30 == 0) (ifB (n39 == 1) (ifB (n45 == 1) (ifB (n48 == 0) (ifB (n54 == 0) (ifB (n57 == 0) (ifB (n76 == 0) (callS (orc vE) 11 [v73] st102 fun
 v105 st106 _x => asS v105 fun l108 => ifB (l108 == [111, 110, 101, 45, 45, 116, 119, 111, 10]) (callS (orc vE) 11 [v4] st106 fun v109 st110 _x => asS v109 fun l112 => ifB (l112 == [111, 110, 101, 10, 116, 119, 111, 10])
 (some ([AV.bool (n96 == 1)], st110)) (some ([AV.bool false], st110))) (some ([AV.bool false], st106))) (some ([AV.bool false], st102))) (some ([AV.bool false], st102))) (some ([AV.bool false], st102))) (some ([AV.bool
 false], st102))) (some ([AV.bool false], st102))) (some ([AV.bool false], st102))) (some ([AV.bool false], st102))) (some ([AV.bool false], st102))) (some ([AV.bool false], st102))) (some ([AV.bool false], st102)))
 (some ([AV.bool false], st102))) (some ([AV.bool false], st98))) fun c113 => unc (Prod.fst c113) fun v114 l115 => asB v114 fun b116 => un0 l115 (some (AV.bool b116))))))
theorem g7_eq : bareS vE 7 [] = g7 := by kernel_rfl
/-- rostrum/rope.Of -/
noncomputable def g8 : AV → Option AV := fun x0 => asS x0 fun l0 => ifB (decide ((↑(List.length l0) : Int) > 65536)) (some (AV.tup [AV.nilp, AV.int .i64 40])) (callS (orc vE) 27 [AV.str l0] (St.mk 0 0 Tr.leaf) fun v1 _x
 _x_1 => asOne v1 (asOne v1 (fit1 v1 fun v5 => some (AV.tup [AV.ip [v5], AV.int .i64 0]))))
theorem g8_eq (x0 : AV) : bareS vE 8 [x0] = g8 x0 := by kernel_rfl
/-- (*rostrum/rope.Rope).Replace -/
noncomputable def g9 : AV → AV → AV → Option AV := fun x0 x1 x2 => unA x1 fun l1 => unc l1 fun v2 l3 => asI .i64 v2 fun n4 => unc l3 fun v5 l6 => asI .i64 v5 fun n7 => un0 l6 (asS x2 fun l8 => callS (orc vE) 28 [x0,
 AV.agg [AV.int .i64 n4, AV.int .i64 n7]] (St.mk 0 0 Tr.leaf) fun v10 st11 _x => asI .i64 v10 fun n13 => ifB (n13 != 0) (some (AV.tup [AV.nilp, AV.int .i64 n13])) (callS (orc vE) 19 [x0] st11 fun v14 st15 x16 => asI .i64
 v14 fun n17 => chk (apart (Fx.mk [] Did.kept) x16 && (apart (Fx.mk [] Did.kept) x16 && true)) (chk (apart x16 (Fx.mk [] Did.kept) && true) (chk (apart x16 (Fx.mk [] Did.kept) && true) (chk (apart x16 (Fx.mk [] Did.kept)
 && true) (chk (apart x16 (Fx.mk [] Did.kept) && true) (letV (IntKind.wrap .i64 (n7 - n4)) fun n18 => chk (apart x16 (Fx.mk [] Did.kept) && true) (letV (IntKind.wrap .i64 (n17 - n18)) fun n19 => letV (IntKind.wrap .i64
 (65536 - n19)) fun n20 => ifB (decide ((↑(List.length l8) : Int) > n20)) (some (AV.tup [AV.nilp, AV.int .i64 40])) (chk (notNil x0) (fldA 0 x0 fun v21 => loadS 1 false v21 st15 fun v22 _x => callS (orc vE) 29 [v22,
 AV.int .i64 n4] st15 fun v24 st25 _x => unT v24 fun l27 => nthS l27 0 fun v28 => unT v24 fun l29 => nthS l29 1 fun v30 => letV (IntKind.wrap .i64 (n7 - n4)) fun n31 => callS (orc vE) 29 [v30, AV.int .i64 n31] st25 fun
 v32 st33 _x => unT v32 fun l35 => nthS l35 0 fun _x => unT v32 fun l37 => nthS l37 1 fun v38 => callS (orc vE) 27 [AV.str l8] st33 fun v39 st40 _x => callS (orc vE) 30 [v28, v39] st40 fun v42 st43 _x => callS (orc vE)
 30 [v42, v38] st43 fun v45 _x _x_1 => asOne v45 (asOne v45 (fit1 v45 fun v49 => some (AV.tup [AV.ip [v49], AV.int .i64 0])))))))))))))
theorem g9_eq (x0 x1 x2 : AV) : bareS vE 9 [x0, x1, x2] = g9 x0 x1 x2 := by kernel_rfl
/-- rostrum/rostrumref03.Is -/
noncomputable def g10 : AV → AV → Option AV := fun x0 x1 => asS x0 fun l0 => unA x1 fun l2 => unc l2 fun v3 l4 => asI .i64 v3 fun n5 => unc l4 fun v6 l7 => asI .i64 v6 fun n8 => un0 l7 (bindO (ifB (decide (n5 ≥ 0)) (ifB
 (decide (n5 ≤ n8)) (some ([AV.bool (decide (n8 ≤ (↑(List.length l0) : Int)))], St.mk 0 0 Tr.leaf)) (some ([AV.bool false], St.mk 0 0 Tr.leaf))) (some ([AV.bool false], St.mk 0 0 Tr.leaf))) fun c9 => unc (Prod.fst c9)
 fun v10 l11 => asB v10 fun b12 => un0 l11 (some (AV.bool b12)))
theorem g10_eq (x0 x1 : AV) : bareS vE 10 [x0, x1] = g10 x0 x1 := by kernel_rfl
/-- (*rostrum/rope.Rope).String -/
noncomputable def g11 : AV → Option AV := fun x0 => nilS (U.ptr 57) x0 AV.nilp fun b0 => ifB b0 (some (AV.str [])) (chk (notNil x0) (fldA 0 x0 fun v1 => loadS 1 false v1 (St.mk 0 0 Tr.leaf) fun v2 _x => callS (orc vE)
 31 [v2] (St.mk 0 0 Tr.leaf) fun v4 _x _x_1 => asS v4 fun l7 => some (AV.str l7)))
theorem g11_eq (x0 : AV) : bareS vE 11 [x0] = g11 x0 := by kernel_rfl
/-- (*rostrum/rope.Rope).Slice -/
noncomputable def g12 : AV → AV → Option AV := fun x0 x1 => unA x1 fun l1 => unc l1 fun v2 l3 => asI .i64 v2 fun n4 => unc l3 fun v5 l6 => asI .i64 v5 fun n7 => un0 l6 (callS (orc vE) 28 [x0, AV.agg [AV.int .i64 n4,
 AV.int .i64 n7]] (St.mk 0 0 Tr.leaf) fun v9 st10 _x => asI .i64 v9 fun n12 => ifB (n12 != 0) (some (AV.tup [AV.str [], AV.int .i64 n12])) (chk (notNil x0) (fldA 0 x0 fun v13 => loadS 1 false v13 st10 fun v14 _x => callS
 (orc vE) 29 [v14, AV.int .i64 n4] st10 fun v16 st17 _x => unT v16 fun l19 => nthS l19 0 fun _x => unT v16 fun l21 => nthS l21 1 fun v22 => letV (IntKind.wrap .i64 (n7 - n4)) fun n23 => callS (orc vE) 29 [v22, AV.int
 .i64 n23] st17 fun v24 st25 _x => unT v24 fun l27 => nthS l27 0 fun v28 => unT v24 fun l29 => nthS l29 1 fun _x => callS (orc vE) 31 [v28] st25 fun v31 _x _x_1 => asS v31 fun l34 => some (AV.tup [AV.str l34, AV.int .i64
 0]))))
theorem g12_eq (x0 x1 : AV) : bareS vE 12 [x0, x1] = g12 x0 x1 := by kernel_rfl
/-- rostrum/rostrumlaw03.sp -/
noncomputable def g13 : AV → AV → Option AV := fun x0 x1 => asI .i64 x0 fun n0 => asI .i64 x1 fun n1 => some (AV.agg [AV.int .i64 n0, AV.int .i64 n1])
theorem g13_eq (x0 x1 : AV) : bareS vE 13 [x0, x1] = g13 x0 x1 := by kernel_rfl
/-- rostrum/rostrumref03.Put -/
noncomputable def g14 : AV → AV → AV → Option AV := fun x0 x1 x2 => asS x0 fun l0 => unA x1 fun l2 => unc l2 fun v3 l4 => asI .i64 v3 fun n5 => unc l4 fun v6 l7 => asI .i64 v6 fun n8 => un0 l7 (asS x2 fun l9 => uptoS n5
 (List.length l0) fun k10 => letV (List.drop 0 (List.take k10 l0)) fun l11 => chk (Nat.ble (List.length l11 + List.length l9) 9223372036854775807) (letV (l11 ++ l9) fun l12 => uptoS n8 (List.length l0) fun k13 => letV
 (List.drop k13 (List.take (List.length l0) l0)) fun l14 => chk (Nat.ble (List.length l12 + List.length l14) 9223372036854775807) (letV (l12 ++ l14) fun l15 => some (AV.str l15))))
theorem g14_eq (x0 x1 x2 : AV) : bareS vE 14 [x0, x1, x2] = g14 x0 x1 x2 := by kernel_rfl
/-- (*rostrum/rope.Rope).Ends -/
noncomputable def g15 : AV → Option AV := fun x0 => callS (orc vE) 32 [x0] (St.mk 0 0 Tr.leaf) fun v0 _x _x_1 => unA v0 fun l4 => unc l4 fun v5 l6 => asI .i64 v5 fun _x => unc l6 fun v8 l9 => asI .i64 v8 fun n10 => unc
 l9 fun v11 l12 => asI .i64 v11 fun _x => un0 l12 (some (AV.int .i64 n10))
theorem g15_eq (x0 : AV) : bareS vE 15 [x0] = g15 x0 := by kernel_rfl
/-- (*rostrum/rope.Rope).Line -/
noncomputable def g16_L1 : Car → Option (Car ⊕ Nat × Car) := fun c13 => unc (Prod.fst c13) fun v14 l15 => asI .i64 v14 fun n16 => unc l15 fun v17 l18 => asI .i64 v17 fun n19 => unc l18 fun v20 l21 => un0 l21 (chk
 (notNil v20) (fldA 0 v20 fun v22 => fldA 2 v22 fun v23 => loadS 1 false v23 (Prod.snd c13) fun v24 _x => asI .i64 v24 fun n26 => ifB (decide (n26 > 1)) (chk (notNil v20) (fldA 4 v20 fun v27 => loadS 1 false v27
 (Prod.snd c13) fun v28 _x => callS (orc vE) 33 [v28] (Prod.snd c13) fun v30 st31 _x => unA v30 fun l34 => unc l34 fun v35 l36 => asI .i64 v35 fun n37 => unc l36 fun v38 l39 => asI .i64 v38 fun n40 => unc l39 fun v41 l42
 => asI .i64 v41 fun n43 => un0 l42 (letSt (St.add st31 (VM.Obj.cells 64 [AV.int .i64 0, AV.int .i64 0, AV.int .i64 0])) fun st44 => storeS (orc vE) 3 (AV.mp (St.h st31) 0) (AV.agg [AV.int .i64 n37, AV.int .i64 n40,
 AV.int .i64 n43]) [AV.int .i64 n37, AV.int .i64 n40, AV.int .i64 n43] st44 fun _x st46 _x_1 => loadS 1 false (AV.mp (St.h st31) 1) st46 fun v48 _x => asI .i64 v48 fun n50 => bindO (ifB (decide (n19 > n50)) (loadS 1
 false (AV.mp (St.h st31) 0) st46 fun v51 _x => asI .i64 v51 fun n53 => letV (IntKind.wrap .i64 (n16 + n53)) fun n54 => loadS 1 false (AV.mp (St.h st31) 1) st46 fun v55 _x => asI .i64 v55 fun n57 => letV (IntKind.wrap
 .i64 (n19 - n57)) fun n58 => chk (notNil v20) (fldA 5 v20 fun v59 => loadS 1 false v59 st46 fun v60 _x => some ([AV.int .i64 n54, AV.int .i64 n58, v60], st46))) (chk (notNil v20) (fldA 4 v20 fun v62 => loadS 1 false v62
 st46 fun v63 _x => some ([AV.int .i64 n16, AV.int .i64 n19, v63], st46)))) fun c65 => unc (Prod.fst c65) fun v66 l67 => asI .i64 v66 fun n68 => unc l67 fun v69 l70 => asI .i64 v69 fun n71 => unc l70 fun v72 l73 => un0
 l73 (some (Sum.inl ([AV.int .i64 n68, AV.int .i64 n71, v72], Prod.snd c65)))))) (some (Sum.inr (0, [AV.int .i64 n16, AV.int .i64 n19, v20], Prod.snd c13)))))
noncomputable def g16_L2 (n77 : Int) (v81 : AV) (l86 : List UInt8) : Car → Option (Car ⊕ Nat × Car) := fun c87 => unc (Prod.fst c87) fun v88 l89 => asI .i64 v88 fun n90 => unc l89 fun v91 l92 => asI .i64 v91 fun n93 =>
 unc l92 fun v94 l95 => asI .i64 v94 fun n96 => unc l95 fun v97 l98 => asI .i64 v97 fun n99 => un0 l98 (ifB (decide (n99 < (↑(List.length l86) : Int))) (chk (notNil v81) (fldA 3 v81 fun v100 => loadS 1 false v100
 (Prod.snd c87) fun v101 _x => asS v101 fun l103 => idxStr l103 n99 fun c104 => bindO (ifB ((↑(UInt8.toNat c104) : Int) == 10) (letV (IntKind.wrap .i64 (n90 - 1)) fun n105 => some ([AV.int .i64 n105], Prod.snd c87))
 (some ([AV.int .i64 n90], Prod.snd c87))) fun c106 => unc (Prod.fst c106) fun v107 l108 => asI .i64 v107 fun n109 => un0 l108 (ifB (n109 == 0) (letV (IntKind.wrap .i64 (n77 + n99)) fun n110 => letV (IntKind.wrap .i64
 (n110 + 1)) fun n111 => some (Sum.inr (1, [AV.int .i64 n111, AV.int .i64 0], Prod.snd c106))) (letV (IntKind.wrap .i64 (n99 + 1)) fun n112 => some (Sum.inl ([AV.int .i64 n109, AV.int .i64 n93, AV.int .i64 n96, AV.int
 .i64 n112], Prod.snd c106)))))) (some (Sum.inr (0, [AV.int .i64 n93, AV.int .i64 n96], Prod.snd c87))))
noncomputable def g16 : AV → AV → Option AV := fun x0 x1 => asI .i64 x1 fun n0 => nilS (U.ptr 57) x0 AV.nilp fun b1 => ifB b1 (some (AV.tup [AV.int .i64 0, AV.int .i64 2])) (bindO (ifB (decide (n0 < 0)) (some ([AV.bool
 true], St.mk 0 0 Tr.leaf)) (callS (orc vE) 15 [x0] (St.mk 0 0 Tr.leaf) fun v2 st3 _x => asI .i64 v2 fun n5 => some ([AV.bool (decide (n0 > n5))], st3))) fun c6 => unc (Prod.fst c6) fun v7 l8 => asB v7 fun b9 => un0 l8
 (ifB b9 (some (AV.tup [AV.int .i64 0, AV.int .i64 1])) (ifB (n0 == 0) (some (AV.tup [AV.int .i64 0, AV.int .i64 0])) (chk (notNil x0) (fldA 0 x0 fun v10 => loadS 1 false v10 (Prod.snd c6) fun v11 _x => bindO (loopO
 g16_L1 ([AV.int .i64 0, AV.int .i64 n0, v11], Prod.snd c6)) fun c74 => unc (Prod.fst (Prod.snd c74)) fun v75 l76 => asI .i64 v75 fun n77 => unc l76 fun v78 l79 => asI .i64 v78 fun n80 => unc l79 fun v81 l82 => un0 l82
 (chk (notNil v81) (fldA 3 v81 fun v83 => loadS 1 false v83 (Prod.snd (Prod.snd c74)) fun v84 _x => asS v84 fun l86 => bindO (loopO (g16_L2 n77 v81 l86) ([AV.int .i64 n80, AV.int .i64 0, AV.int .i64 0, AV.int .i64 0],
 Prod.snd (Prod.snd c74))) fun c113 => unc (Prod.fst (Prod.snd c113)) fun v114 l115 => asI .i64 v114 fun n116 => unc l115 fun v117 l118 => asI .i64 v117 fun n119 => un0 l118 (sel2 (Prod.fst c113) (some (AV.tup [AV.int
 .i64 0, AV.int .i64 1])) fun _x => some (AV.tup [AV.int .i64 n116, AV.int .i64 n119])))))))))
theorem g16_eq (x0 x1 : AV) : bareS vE 16 [x0, x1] = g16 x0 x1 := by kernel_rfl
/-- (*rostrum/rope.Rope).Ahead -/
noncomputable def g17_L1 : Car → Option (Car ⊕ Nat × Car) := fun c13 => unc (Prod.fst c13) fun v14 l15 => asI .i64 v14 fun n16 => unc l15 fun v17 l18 => asI .i64 v17 fun n19 => unc l18 fun v20 l21 => un0 l21 (bindO
 (nilS (U.ptr 67) v20 AV.nilp fun b22 => ifB (!b22) (chk (notNil v20) (fldA 0 v20 fun v23 => fldA 2 v23 fun v24 => loadS 1 false v24 (Prod.snd c13) fun v25 _x => asI .i64 v25 fun n27 => some ([AV.bool (decide (n27 >
 1))], Prod.snd c13))) (some ([AV.bool false], Prod.snd c13))) fun c28 => unc (Prod.fst c28) fun v29 l30 => asB v29 fun b31 => un0 l30 (ifB b31 (chk (notNil v20) (fldA 4 v20 fun v32 => loadS 1 false v32 (Prod.snd c28)
 fun v33 _x => callS (orc vE) 33 [v33] (Prod.snd c28) fun v35 st36 _x => unA v35 fun l39 => unc l39 fun v40 l41 => asI .i64 v40 fun n42 => unc l41 fun v43 l44 => asI .i64 v43 fun n45 => unc l44 fun v46 l47 => asI .i64
 v46 fun n48 => un0 l47 (letSt (St.add st36 (VM.Obj.cells 64 [AV.int .i64 0, AV.int .i64 0, AV.int .i64 0])) fun st49 => storeS (orc vE) 3 (AV.mp (St.h st36) 0) (AV.agg [AV.int .i64 n42, AV.int .i64 n45, AV.int .i64
 n48]) [AV.int .i64 n42, AV.int .i64 n45, AV.int .i64 n48] st49 fun _x st51 _x_1 => loadS 1 false (AV.mp (St.h st36) 0) st51 fun v53 _x => asI .i64 v53 fun n55 => bindO (ifB (decide (n16 > n55)) (loadS 1 false (AV.mp
 (St.h st36) 0) st51 fun v56 _x => asI .i64 v56 fun n58 => letV (IntKind.wrap .i64 (n16 - n58)) fun n59 => loadS 1 false (AV.mp (St.h st36) 1) st51 fun v60 _x => asI .i64 v60 fun n62 => letV (IntKind.wrap .i64 (n19 +
 n62)) fun n63 => chk (notNil v20) (fldA 5 v20 fun v64 => loadS 1 false v64 st51 fun v65 _x => some ([AV.int .i64 n59, AV.int .i64 n63, v65], st51))) (chk (notNil v20) (fldA 4 v20 fun v67 => loadS 1 false v67 st51 fun
 v68 _x => some ([AV.int .i64 n16, AV.int .i64 n19, v68], st51)))) fun c70 => unc (Prod.fst c70) fun v71 l72 => asI .i64 v71 fun n73 => unc l72 fun v74 l75 => asI .i64 v74 fun n76 => unc l75 fun v77 l78 => un0 l78 (some
 (Sum.inl ([AV.int .i64 n73, AV.int .i64 n76, v77], Prod.snd c70)))))) (some (Sum.inr (0, [AV.int .i64 n16, AV.int .i64 n19, v20], Prod.snd c28)))))
noncomputable def g17 : AV → AV → Option AV := fun x0 x1 => asI .i64 x1 fun n0 => nilS (U.ptr 57) x0 AV.nilp fun b1 => ifB b1 (some (AV.tup [AV.int .i64 0, AV.int .i64 2])) (bindO (ifB (decide (n0 < 0)) (some ([AV.bool
 true], St.mk 0 0 Tr.leaf)) (callS (orc vE) 19 [x0] (St.mk 0 0 Tr.leaf) fun v2 st3 _x => asI .i64 v2 fun n5 => some ([AV.bool (decide (n0 > n5))], st3))) fun c6 => unc (Prod.fst c6) fun v7 l8 => asB v7 fun b9 => un0 l8
 (ifB b9 (some (AV.tup [AV.int .i64 0, AV.int .i64 1])) (chk (notNil x0) (fldA 0 x0 fun v10 => loadS 1 false v10 (Prod.snd c6) fun v11 _x => bindO (loopO g17_L1 ([AV.int .i64 n0, AV.int .i64 0, v11], Prod.snd c6)) fun
 c79 => unc (Prod.fst (Prod.snd c79)) fun v80 l81 => asI .i64 v80 fun n82 => unc l81 fun v83 l84 => asI .i64 v83 fun n85 => unc l84 fun v86 l87 => un0 l87 (nilS (U.ptr 67) v86 AV.nilp fun b88 => bindO (ifB (!b88) (chk
 (notNil v86) (fldA 3 v86 fun v89 => loadS 1 false v89 (Prod.snd (Prod.snd c79)) fun v90 _x => asS v90 fun l92 => uptoS n82 (List.length l92) fun k93 => letV (List.drop 0 (List.take k93 l92)) fun l94 => planS (orc vE)
 (primP (Prim.lib libCount) [AV.str l94, AV.str [10]]) (Prod.snd (Prod.snd c79)) fun v95 st96 _x => asI .i64 v95 fun n98 => letV (IntKind.wrap .i64 (n85 + n98)) fun n99 => some ([AV.int .i64 n99], st96))) (some ([AV.int
 .i64 n85], Prod.snd (Prod.snd c79)))) fun c100 => unc (Prod.fst c100) fun v101 l102 => asI .i64 v101 fun n103 => un0 l102 (some (AV.tup [AV.int .i64 n103, AV.int .i64 0])))))))
theorem g17_eq (x0 x1 : AV) : bareS vE 17 [x0, x1] = g17 x0 x1 := by kernel_rfl
/-- rostrum/rostrumlaw03.many -/
noncomputable def g18_L1 (n0 : Int) (l1 : List UInt8) : Car → Option (Car ⊕ Nat × Car) := fun c6 => unc (Prod.fst c6) fun v7 l8 => unc l8 fun v9 l10 => asI .i64 v9 fun n11 => un0 l10 (ifB (decide (n11 < n0)) (fitTs
 false (ofBytes l1) fun l12 => chk (sizesOk 1 l12) (appS 1 1 5 v7 l12 (Prod.snd c6) fun v13 st14 _x => letV (IntKind.wrap .i64 (n11 + 1)) fun n16 => some (Sum.inl ([v13, AV.int .i64 n16], st14)))) (some (Sum.inr (0,
 [v7], Prod.snd c6))))
noncomputable def g18 : AV → AV → Option AV := fun x0 x1 => asI .i64 x0 fun n0 => asS x1 fun l1 => letV (IntKind.wrap .i64 (n0 * (↑(List.length l1) : Int))) fun n2 => planS (orc vE) (makeSliceP (Env.T vE) 70 (AV.int
 .i64 0) (AV.int .i64 n2)) (St.mk 0 0 Tr.leaf) fun v3 st4 _x => bindO (loopO (g18_L1 n0 l1) ([v3, AV.int .i64 0], st4)) fun c17 => unc (Prod.fst (Prod.snd c17)) fun v18 l19 => un0 l19 (planS (orc vE) (convertP (Env.T vE)
 70 9 v18) (Prod.snd (Prod.snd c17)) fun v20 _x _x_1 => asS v20 fun l23 => letV l23 fun l24 => some (AV.str l24))
theorem g18_eq (x0 x1 : AV) : bareS vE 18 [x0, x1] = g18 x0 x1 := by kernel_rfl
/-- (*rostrum/rope.Rope).Len -/
noncomputable def g19 : AV → Option AV := fun x0 => callS (orc vE) 32 [x0] (St.mk 0 0 Tr.leaf) fun v0 _x _x_1 => unA v0 fun l4 => unc l4 fun v5 l6 => asI .i64 v5 fun n7 => unc l6 fun v8 l9 => asI .i64 v8 fun _x => unc
 l9 fun v11 l12 => asI .i64 v11 fun _x => un0 l12 (some (AV.int .i64 n7))
theorem g19_eq (x0 : AV) : bareS vE 19 [x0] = g19 x0 := by kernel_rfl
/-- (*rostrum/rope.Rope).Depth -/
noncomputable def g20 : AV → Option AV := fun x0 => callS (orc vE) 32 [x0] (St.mk 0 0 Tr.leaf) fun v0 _x _x_1 => unA v0 fun l4 => unc l4 fun v5 l6 => asI .i64 v5 fun _x => unc l6 fun v8 l9 => asI .i64 v8 fun _x => unc
 l9 fun v11 l12 => asI .i64 v11 fun n13 => un0 l12 (some (AV.int .i64 n13))
theorem g20_eq (x0 : AV) : bareS vE 20 [x0] = g20 x0 := by kernel_rfl
/-- rostrum/rostrumlaw03.large -/
noncomputable def g21_L1 (x1 : AV) : Car → Option (Car ⊕ Nat × Car) := fun c1 => unc (Prod.fst c1) fun v2 l3 => asB v2 fun b4 => unc l3 fun v5 l6 => asI .i64 v5 fun n7 => unc l6 fun v8 l9 => asI .i64 v8 fun n10 => un0
 l9 (bindO (lenS x1 fun k11 => ifB (decide (n10 < (↑k11 : Int))) (some ([AV.bool (decide (n10 ≤ 60))], Prod.snd c1)) (some ([AV.bool false], Prod.snd c1))) fun c12 => unc (Prod.fst c12) fun v13 l14 => asB v13 fun b15 =>
 un0 l14 (ifB b15 (idxA 6 x1 n10 (Prod.snd c12) fun v16 _x => fldA 4 v16 fun v18 => loadS 1 false v18 (Prod.snd c12) fun v19 _x => asS v19 fun l21 => ifB (decide ((↑(List.length l21) : Int) > 3000)) (some (Sum.inr (1,
 [AV.bool true, AV.int .i64 n7], Prod.snd c12))) (idxA 6 x1 n10 (Prod.snd c12) fun v22 _x => fldA 4 v22 fun v24 => loadS 1 false v24 (Prod.snd c12) fun v25 _x => asS v25 fun l27 => letV (IntKind.wrap .i64 (n7 +
 (↑(List.length l27) : Int))) fun n28 => letV (IntKind.wrap .i64 (n10 + 1)) fun n29 => some (Sum.inl ([AV.bool b4, AV.int .i64 n28, AV.int .i64 n29], Prod.snd c12)))) (some (Sum.inr (0, [AV.bool b4, AV.int .i64 n7],
 Prod.snd c12)))))
noncomputable def g21 : AV → AV → Option AV := fun x0 x1 => asS x0 fun l0 => bindO (loopO (g21_L1 x1) ([AV.bool false, AV.int .i64 0, AV.int .i64 0], St.mk 0 0 Tr.leaf)) fun c30 => unc (Prod.fst (Prod.snd c30)) fun v31
 l32 => asB v31 fun b33 => unc l32 fun v34 l35 => asI .i64 v34 fun n36 => un0 l35 (sel2 (Prod.fst c30) (bindO (lenS x1 fun k37 => ifB (decide ((↑k37 : Int) > 60)) (some ([AV.bool true], Prod.snd (Prod.snd c30))) (ifB
 (decide ((↑(List.length l0) : Int) > 5000)) (some ([AV.bool true], Prod.snd (Prod.snd c30))) (some ([AV.bool (decide (n36 > 5000))], Prod.snd (Prod.snd c30))))) fun c38 => unc (Prod.fst c38) fun v39 l40 => asB v39 fun
 b41 => un0 l40 (some (AV.bool b41))) fun _x => some (AV.bool b33))
theorem g21_eq (x0 x1 : AV) : bareS vE 21 [x0, x1] = g21 x0 x1 := by kernel_rfl
/-- rostrum/rostrumlaw03.same -/
noncomputable def g22 : AV → AV → Option AV := fun x0 x1 => unA x1 fun l1 => unc l1 fun v2 l3 => asS v2 fun l4 => un0 l3 (callS (orc vE) 20 [x0] (St.mk 0 0 Tr.leaf) fun v5 st6 _x => asI .i64 v5 fun n8 => bindO (callS
 (orc vE) 19 [x0] st6 fun v9 st10 x11 => asI .i64 v9 fun n12 => chk (apart x11 (Fx.mk [] Did.kept) && true) (ifB (n12 == (↑(List.length l4) : Int)) (callS (orc vE) 11 [x0] st10 fun v13 st14 x15 => asS v13 fun l16 => chk
 (apart x15 (Fx.mk [] Did.kept) && true) (chk (apart x15 (Fx.mk [] Did.kept) && true) (ifB (l16 == l4) (callS (orc vE) 15 [x0] st14 fun v17 st18 x19 => asI .i64 v17 fun n20 => chk (apart x19 (Fx.mk [] Did.kept) && true)
 (chk (apart x19 (Fx.mk [] Did.kept) && true) (callS (orc vE) 35 [AV.str l4] st18 fun v21 st22 _x => asI .i64 v21 fun n24 => ifB (n20 == n24) (ifB ((n8 == 0) == ((↑(List.length l4) : Int) == 0)) (ifB (decide (n8 ≥ 0))
 (callS (orc vE) 36 [AV.int .i64 (↑(List.length l4) : Int)] st22 fun v25 st26 x27 => asI .i64 v25 fun n28 => chk (apart (Fx.mk [] Did.kept) x27 && true) (some ([AV.bool (decide (n8 ≤ n28))], st26))) (some ([AV.bool
 false], st22))) (some ([AV.bool false], st22))) (some ([AV.bool false], st22))))) (some ([AV.bool false], st14))))) (some ([AV.bool false], st10)))) fun c29 => unc (Prod.fst c29) fun v30 l31 => asB v30 fun b32 => un0
 l31 (some (AV.bool b32)))
theorem g22_eq (x0 x1 : AV) : bareS vE 22 [x0, x1] = g22 x0 x1 := by kernel_rfl
/-- (rostrum/rostrumref03.Rope).Replace -/
noncomputable def g23 : AV → AV → AV → Option AV := fun x0 x1 x2 => unA x0 fun l1 => unc l1 fun v2 l3 => asS v2 fun l4 => un0 l3 (unA x1 fun l6 => unc l6 fun v7 l8 => asI .i64 v7 fun n9 => unc l8 fun v10 l11 => asI .i64
 v10 fun n12 => un0 l11 (asS x2 fun l13 => callS (orc vE) 10 [AV.str l4, AV.agg [AV.int .i64 n9, AV.int .i64 n12]] (St.mk 1 0 (Tr.node (some (VM.Obj.cells 46 [AV.str []])) Tr.leaf Tr.leaf)) fun v15 st16 _x => asB v15 fun
 b18 => ifB (!b18) (storeS (orc vE) 1 (AV.mp 0 0) (AV.agg [AV.str []]) [AV.str []] st16 fun _x st21 _x_1 => loadS 1 true (AV.mp 0 0) st21 fun v23 _x => unA v23 fun l26 => unc l26 fun v27 l28 => asS v27 fun l29 => un0 l28
 (some (AV.tup [AV.agg [AV.str l29], AV.int .i64 1]))) (bindO (ifB (decide ((↑(List.length l13) : Int) > 65536)) (some ([AV.bool true], st16)) (letV (IntKind.wrap .i64 (n12 - n9)) fun n30 => letV (IntKind.wrap .i64
 ((↑(List.length l4) : Int) - n30)) fun n31 => letV (IntKind.wrap .i64 (n31 + (↑(List.length l13) : Int))) fun n32 => some ([AV.bool (decide (n32 > 65536))], st16))) fun c33 => unc (Prod.fst c33) fun v34 l35 => asB v34
 fun b36 => un0 l35 (ifB b36 (storeS (orc vE) 1 (AV.mp 0 0) (AV.agg [AV.str []]) [AV.str []] (Prod.snd c33) fun _x st39 _x_1 => loadS 1 true (AV.mp 0 0) st39 fun v41 _x => unA v41 fun l44 => unc l44 fun v45 l46 => asS
 v45 fun l47 => un0 l46 (some (AV.tup [AV.agg [AV.str l47], AV.int .i64 40]))) (callS (orc vE) 14 [AV.str l4, AV.agg [AV.int .i64 n9, AV.int .i64 n12], AV.str l13] (Prod.snd c33) fun v49 st50 _x => asS v49 fun l52 =>
 storeS (orc vE) 1 (AV.mp 0 0) (AV.agg [AV.str l52]) [AV.str l52] st50 fun _x st55 _x_1 => loadS 1 true (AV.mp 0 0) st55 fun v57 _x => unA v57 fun l60 => unc l60 fun v61 l62 => asS v61 fun l63 => un0 l62 (some (AV.tup
 [AV.agg [AV.str l63], AV.int .i64 0])))))))
theorem g23_eq (x0 x1 x2 : AV) : bareS vE 23 [x0, x1, x2] = g23 x0 x1 x2 := by kernel_rfl
/-- (rostrum/rostrumref03.Rope).Slice -/
noncomputable def g24 : AV → AV → Option AV := fun x0 x1 => unA x0 fun l1 => unc l1 fun v2 l3 => asS v2 fun l4 => un0 l3 (unA x1 fun l6 => unc l6 fun v7 l8 => asI .i64 v7 fun n9 => unc l8 fun v10 l11 => asI .i64 v10 fun
 n12 => un0 l11 (callS (orc vE) 10 [AV.str l4, AV.agg [AV.int .i64 n9, AV.int .i64 n12]] (St.mk 0 0 Tr.leaf) fun v14 _x _x_1 => asB v14 fun b17 => ifB (!b17) (some (AV.tup [AV.str [], AV.int .i64 1])) (uptoS n12
 (List.length l4) fun k18 => uptoS n9 k18 fun k19 => letV (List.drop k19 (List.take k18 l4)) fun l20 => some (AV.tup [AV.str l20, AV.int .i64 0]))))
theorem g24_eq (x0 x1 : AV) : bareS vE 24 [x0, x1] = g24 x0 x1 := by kernel_rfl
/-- (rostrum/rostrumref03.Rope).Line -/
noncomputable def g25_L1 (l4 : List UInt8) : Car → Option (Car ⊕ Nat × Car) := fun c6 => unc (Prod.fst c6) fun v7 l8 => asI .i64 v7 fun n9 => unc l8 fun v10 l11 => asI .i64 v10 fun n12 => unc l11 fun v13 l14 => asI .i64
 v13 fun n15 => unc l14 fun v16 l17 => asI .i64 v16 fun n18 => un0 l17 (bindO (ifB (decide (n18 < (↑(List.length l4) : Int))) (some ([AV.bool (decide (n9 > 0))], Prod.snd c6)) (some ([AV.bool false], Prod.snd c6))) fun
 c19 => unc (Prod.fst c19) fun v20 l21 => asB v20 fun b22 => un0 l21 (ifB b22 (idxStr l4 n18 fun c23 => bindO (ifB ((↑(UInt8.toNat c23) : Int) == 10) (letV (IntKind.wrap .i64 (n9 - 1)) fun n24 => ifB (n24 == 0) (letV
 (IntKind.wrap .i64 (n18 + 1)) fun n25 => some (Sum.inr (Sum.inr (1, [AV.int .i64 n25, AV.int .i64 0], Prod.snd c19)))) (some (Sum.inl ([AV.int .i64 n24, AV.int .i64 n12, AV.int .i64 n15], Prod.snd c19)))) (some (Sum.inl
 ([AV.int .i64 n9, AV.int .i64 n12, AV.int .i64 n15], Prod.snd c19)))) fun c26 => onSum c26 fun c27 => unc (Prod.fst c27) fun v28 l29 => asI .i64 v28 fun n30 => unc l29 fun v31 l32 => asI .i64 v31 fun n33 => unc l32 fun
 v34 l35 => asI .i64 v34 fun n36 => un0 l35 (letV (IntKind.wrap .i64 (n18 + 1)) fun n37 => some (Sum.inl ([AV.int .i64 n30, AV.int .i64 n33, AV.int .i64 n36, AV.int .i64 n37], Prod.snd c27)))) (some (Sum.inr (0, [AV.int
 .i64 n12, AV.int .i64 n15], Prod.snd c19)))))
noncomputable def g25 : AV → AV → Option AV := fun x0 x1 => unA x0 fun l1 => unc l1 fun v2 l3 => asS v2 fun l4 => un0 l3 (asI .i64 x1 fun n5 => ifB (n5 == 0) (some (AV.tup [AV.int .i64 0, AV.int .i64 0])) (bindO (loopO
 (g25_L1 l4) ([AV.int .i64 n5, AV.int .i64 0, AV.int .i64 0, AV.int .i64 0], St.mk 0 0 Tr.leaf)) fun c38 => unc (Prod.fst (Prod.snd c38)) fun v39 l40 => asI .i64 v39 fun n41 => unc l40 fun v42 l43 => asI .i64 v42 fun n44
 => un0 l43 (sel2 (Prod.fst c38) (some (AV.tup [AV.int .i64 0, AV.int .i64 1])) fun _x => some (AV.tup [AV.int .i64 n41, AV.int .i64 n44]))))
theorem g25_eq (x0 x1 : AV) : bareS vE 25 [x0, x1] = g25 x0 x1 := by kernel_rfl
/-- (rostrum/rostrumref03.Rope).Ahead -/
noncomputable def g26 : AV → AV → Option AV := fun x0 x1 => unA x0 fun l1 => unc l1 fun v2 l3 => asS v2 fun l4 => un0 l3 (asI .i64 x1 fun n5 => bindO (ifB (decide (n5 < 0)) (some ([AV.bool true], St.mk 0 0 Tr.leaf))
 (some ([AV.bool (decide (n5 > (↑(List.length l4) : Int)))], St.mk 0 0 Tr.leaf))) fun c6 => unc (Prod.fst c6) fun v7 l8 => asB v7 fun b9 => un0 l8 (ifB b9 (some (AV.tup [AV.int .i64 0, AV.int .i64 1])) (uptoS n5
 (List.length l4) fun k10 => letV (List.drop 0 (List.take k10 l4)) fun l11 => callS (orc vE) 35 [AV.str l11] (Prod.snd c6) fun v12 _x _x_1 => asI .i64 v12 fun n15 => some (AV.tup [AV.int .i64 n15, AV.int .i64 0]))))
theorem g26_eq (x0 x1 : AV) : bareS vE 26 [x0, x1] = g26 x0 x1 := by kernel_rfl
/-- rostrum/rope.grown -/
noncomputable def g27 : AV → Option AV := fun x0 => asS x0 fun l0 => ifB (decide ((↑(List.length l0) : Int) ≤ 128)) (callS (orc vE) 37 [AV.str l0] (St.mk 0 0 Tr.leaf) fun v1 st2 _x => frzS st2 0 (oneOf [v1]) fun v4 =>
 some v4) (letV (IntKind.wrap .i64 (Int.tdiv (↑(List.length l0) : Int) 2)) fun n5 => uptoS n5 (List.length l0) fun k6 => letV (List.drop 0 (List.take k6 l0)) fun l7 => callS (orc vE) 27 [AV.str l7] (St.mk 0 0 Tr.leaf)
 fun v8 st9 x10 => chk (apart x10 (Fx.mk [] Did.kept) && true) (chk (apart x10 (Fx.mk [] Did.kept) && true) (uptoS n5 (List.length l0) fun k11 => letV (List.drop k11 (List.take (List.length l0) l0)) fun l12 => chk (apart
 x10 (Fx.mk [] Did.kept) && true) (callS (orc vE) 27 [AV.str l12] st9 fun v13 st14 _x => callS (orc vE) 30 [v8, v13] st14 fun v16 st17 _x => frzS st17 0 (oneOf [v16]) fun v19 => some v19))))
theorem g27_eq (x0 : AV) : bareS vE 27 [x0] = g27 x0 := by kernel_rfl
/-- (*rostrum/rope.Rope).check -/
noncomputable def g28 : AV → AV → Option AV := fun x0 x1 => unA x1 fun l1 => unc l1 fun v2 l3 => asI .i64 v2 fun n4 => unc l3 fun v5 l6 => asI .i64 v5 fun n7 => un0 l6 (nilS (U.ptr 57) x0 AV.nilp fun b8 => ifB b8 (some
 (AV.int .i64 2)) (bindO (ifB (decide (n4 < 0)) (some ([AV.bool true], St.mk 0 0 Tr.leaf)) (ifB (decide (n7 < n4)) (some ([AV.bool true], St.mk 0 0 Tr.leaf)) (callS (orc vE) 19 [x0] (St.mk 0 0 Tr.leaf) fun v9 st10 x11 =>
 asI .i64 v9 fun n12 => chk (apart (Fx.mk [] Did.kept) x11 && (apart (Fx.mk [] Did.kept) x11 && true)) (some ([AV.bool (decide (n7 > n12))], st10))))) fun c13 => unc (Prod.fst c13) fun v14 l15 => asB v14 fun b16 => un0
 l15 (ifB b16 (some (AV.int .i64 1)) (some (AV.int .i64 0)))))
theorem g28_eq (x0 x1 : AV) : bareS vE 28 [x0, x1] = g28 x0 x1 := by kernel_rfl
/-- rostrum/rope.split -/
noncomputable def g29 : AV → AV → Option AV := fun x0 x1 => asI .i64 x1 fun n0 => nilS (U.ptr 67) x0 AV.nilp fun b1 => ifB b1 (some (AV.tup [AV.nilp, AV.nilp])) (chk (notNil x0) (fldA 0 x0 fun v2 => fldA 2 v2 fun v3 =>
 loadS 1 false v3 (St.mk 0 0 Tr.leaf) fun v4 _x => asI .i64 v4 fun n6 => ifB (n6 == 1) (chk (notNil x0) (fldA 3 x0 fun v7 => loadS 1 false v7 (St.mk 0 0 Tr.leaf) fun v8 _x => asS v8 fun l10 => uptoS n0 (List.length l10)
 fun k11 => letV (List.drop 0 (List.take k11 l10)) fun l12 => callS (orc vE) 37 [AV.str l12] (St.mk 0 0 Tr.leaf) fun v13 st14 x15 => chk (apart x15 (Fx.mk [] Did.kept) && true) (chk (notNil x0) (chk (apart x15 (Fx.mk []
 Did.kept) && true) (fldA 3 x0 fun v16 => chk (apart x15 (Fx.mk [] Did.kept) && true) (loadS 1 false v16 st14 fun v17 l18 => asS v17 fun l19 => chk (apart x15 (Fx.mk l18 Did.kept) && true) (chk (apart x15 (Fx.mk []
 Did.kept) && true) (uptoS n0 (List.length l19) fun k20 => letV (List.drop k20 (List.take (List.length l19) l19)) fun l21 => chk (apart x15 (Fx.mk [] Did.kept) && true) (callS (orc vE) 37 [AV.str l21] st14 fun v22 st23
 _x => frzS st23 0 (AV.tup [v13, v22]) fun v25 => some v25))))))))) (chk (notNil x0) (fldA 4 x0 fun v26 => loadS 1 false v26 (St.mk 0 0 Tr.leaf) fun v27 _x => callS (orc vE) 33 [v27] (St.mk 0 0 Tr.leaf) fun v29 st30 _x
 => unA v29 fun l33 => unc l33 fun v34 l35 => asI .i64 v34 fun n36 => unc l35 fun v37 l38 => asI .i64 v37 fun _x => unc l38 fun v40 l41 => asI .i64 v40 fun _x => un0 l41 (ifB (decide (n0 > n36)) (chk (notNil x0) (fldA 5
 x0 fun v43 => loadS 1 false v43 st30 fun v44 _x => letV (IntKind.wrap .i64 (n0 - n36)) fun n46 => callS (orc vE) 29 [v44, AV.int .i64 n46] st30 fun v47 st48 _x => unT v47 fun l50 => nthS l50 0 fun v51 => unT v47 fun l52
 => nthS l52 1 fun v53 => chk (notNil x0) (fldA 4 x0 fun v54 => loadS 1 false v54 st48 fun v55 _x => callS (orc vE) 30 [v55, v51] st48 fun v57 st58 _x => frzS st58 0 (AV.tup [v57, v53]) fun v60 => some v60))) (chk
 (notNil x0) (fldA 4 x0 fun v61 => loadS 1 false v61 st30 fun v62 _x => callS (orc vE) 29 [v62, AV.int .i64 n0] st30 fun v64 st65 _x => unT v64 fun l67 => nthS l67 0 fun v68 => unT v64 fun l69 => nthS l69 1 fun v70 =>
 chk (notNil x0) (fldA 5 x0 fun v71 => loadS 1 false v71 st65 fun v72 _x => callS (orc vE) 30 [v70, v72] st65 fun v74 st75 _x => frzS st75 0 (AV.tup [v68, v74]) fun v77 => some v77))))))))
theorem g29_eq (x0 x1 : AV) : bareS vE 29 [x0, x1] = g29 x0 x1 := by kernel_rfl
/-- rostrum/rope.join -/
noncomputable def g30 : AV → AV → Option AV := fun x0 x1 => callS (orc vE) 33 [x0] (St.mk 0 0 Tr.leaf) fun v0 st1 _x => unA v0 fun l4 => unc l4 fun v5 l6 => asI .i64 v5 fun n7 => unc l6 fun v8 l9 => asI .i64 v8 fun n10
 => unc l9 fun v11 l12 => asI .i64 v11 fun n13 => un0 l12 (callS (orc vE) 33 [x1] st1 fun v14 st15 _x => unA v14 fun l18 => unc l18 fun v19 l20 => asI .i64 v19 fun n21 => unc l20 fun v22 l23 => asI .i64 v22 fun n24 =>
 unc l23 fun v25 l26 => asI .i64 v25 fun n27 => un0 l26 (letSt (St.add st15 (VM.Obj.cells 64 [AV.int .i64 0, AV.int .i64 0, AV.int .i64 0])) fun st28 => letSt (St.add st28 (VM.Obj.cells 64 [AV.int .i64 0, AV.int .i64 0,
 AV.int .i64 0])) fun st29 => storeS (orc vE) 3 (AV.mp (St.h st15) 0) (AV.agg [AV.int .i64 n7, AV.int .i64 n10, AV.int .i64 n13]) [AV.int .i64 n7, AV.int .i64 n10, AV.int .i64 n13] st29 fun _x st31 _x_1 => storeS (orc
 vE) 3 (AV.mp (St.h st28) 0) (AV.agg [AV.int .i64 n21, AV.int .i64 n24, AV.int .i64 n27]) [AV.int .i64 n21, AV.int .i64 n24, AV.int .i64 n27] st31 fun _x st34 _x_2 => nilS (U.ptr 67) x0 AV.nilp fun b36 => ifB b36 (frzS
 st34 0 (oneOf [x1]) fun v37 => some v37) (nilS (U.ptr 67) x1 AV.nilp fun b38 => ifB b38 (frzS st34 0 (oneOf [x0]) fun v39 => some v39) (bindO (loadS 1 false (AV.mp (St.h st15) 2) st34 fun v40 _x => asI .i64 v40 fun n42
 => ifB (n42 == 1) (loadS 1 false (AV.mp (St.h st28) 2) st34 fun v43 _x => asI .i64 v43 fun n45 => ifB (n45 == 1) (loadS 1 false (AV.mp (St.h st15) 0) st34 fun v46 _x => asI .i64 v46 fun n48 => loadS 1 false (AV.mp (St.h
 st28) 0) st34 fun v49 _x => asI .i64 v49 fun n51 => letV (IntKind.wrap .i64 (n48 + n51)) fun n52 => some ([AV.bool (decide (n52 ≤ 128))], st34)) (some ([AV.bool false], st34))) (some ([AV.bool false], st34))) fun c53 =>
 unc (Prod.fst c53) fun v54 l55 => asB v54 fun b56 => un0 l55 (ifB b56 (chk (notNil x0) (fldA 3 x0 fun v57 => loadS 1 false v57 (Prod.snd c53) fun v58 _x => asS v58 fun l60 => chk (notNil x1) (fldA 3 x1 fun v61 => loadS
 1 false v61 (Prod.snd c53) fun v62 _x => asS v62 fun l64 => chk (Nat.ble (List.length l60 + List.length l64) 9223372036854775807) (letV (l60 ++ l64) fun l65 => callS (orc vE) 37 [AV.str l65] (Prod.snd c53) fun v66 st67
 _x => frzS st67 0 (oneOf [v66]) fun v69 => some v69)))) (loadS 1 false (AV.mp (St.h st15) 2) (Prod.snd c53) fun v70 _x => asI .i64 v70 fun n72 => loadS 1 false (AV.mp (St.h st28) 2) (Prod.snd c53) fun v73 _x => asI .i64
 v73 fun n75 => letV (IntKind.wrap .i64 (n75 + 1)) fun n76 => ifB (decide (n72 > n76)) (chk (notNil x0) (fldA 4 x0 fun v77 => loadS 1 false v77 (Prod.snd c53) fun v78 l79 => chk (notNil x0) (fldA 5 x0 fun v80 => loadS 1
 false v80 (Prod.snd c53) fun v81 _x => callS (orc vE) 30 [v81, x1] (Prod.snd c53) fun v83 st84 x85 => chk (apart (Fx.mk l79 Did.kept) x85 && (apart (Fx.mk [] Did.kept) x85 && (apart (Fx.mk [] Did.kept) x85 && (apart
 (Fx.mk [] Did.kept) x85 && true)))) (callS (orc vE) 38 [v78, v83] st84 fun v86 st87 _x => frzS st87 0 (oneOf [v86]) fun v89 => some v89)))) (loadS 1 false (AV.mp (St.h st28) 2) (Prod.snd c53) fun v90 _x => asI .i64 v90
 fun n92 => loadS 1 false (AV.mp (St.h st15) 2) (Prod.snd c53) fun v93 _x => asI .i64 v93 fun n95 => letV (IntKind.wrap .i64 (n95 + 1)) fun n96 => ifB (decide (n92 > n96)) (chk (notNil x1) (fldA 4 x1 fun v97 => loadS 1
 false v97 (Prod.snd c53) fun v98 _x => callS (orc vE) 30 [x0, v98] (Prod.snd c53) fun v100 st101 x102 => chk (apart x102 (Fx.mk [] Did.kept) && true) (chk (notNil x1) (chk (apart x102 (Fx.mk [] Did.kept) && true) (fldA
 5 x1 fun v103 => chk (apart x102 (Fx.mk [] Did.kept) && true) (loadS 1 false v103 st101 fun v104 l105 => chk (apart x102 (Fx.mk l105 Did.kept) && true) (callS (orc vE) 38 [v100, v104] st101 fun v106 st107 _x => frzS
 st107 0 (oneOf [v106]) fun v109 => some v109))))))) (callS (orc vE) 39 [x0, x1] (Prod.snd c53) fun v110 st111 _x => frzS st111 0 (oneOf [v110]) fun v113 => some v113))))))))
theorem g30_eq (x0 x1 : AV) : bareS vE 30 [x0, x1] = g30 x0 x1 := by kernel_rfl
/-- rostrum/rope.text -/
noncomputable def g31 : AV → Option AV := fun x0 => callS (orc vE) 40 [x0, AV.mp 0 0] (St.mk 1 0 (Tr.node (some (VM.Obj.cells 75 [AV.nilp, AV.nils])) Tr.leaf Tr.leaf)) fun _x st1 _x_1 => planS (orc vE) (primP
 (Prim.builderString 5) [AV.mp 0 0]) st1 fun v3 _x _x_2 => asS v3 fun l6 => some (AV.str l6)
theorem g31_eq (x0 : AV) : bareS vE 31 [x0] = g31 x0 := by kernel_rfl
/-- (*rostrum/rope.Rope).known -/
noncomputable def g32 : AV → Option AV := fun x0 => nilS (U.ptr 57) x0 AV.nilp fun b0 => ifB b0 (some (AV.agg [AV.int .i64 0, AV.int .i64 0, AV.int .i64 0])) (chk (notNil x0) (fldA 0 x0 fun v3 => loadS 1 false v3 (St.mk
 1 0 (Tr.node (some (VM.Obj.cells 64 [AV.int .i64 0, AV.int .i64 0, AV.int .i64 0])) Tr.leaf Tr.leaf)) fun v4 _x => callS (orc vE) 33 [v4] (St.mk 1 0 (Tr.node (some (VM.Obj.cells 64 [AV.int .i64 0, AV.int .i64 0, AV.int
 .i64 0])) Tr.leaf Tr.leaf)) fun v6 st7 _x => unA v6 fun l10 => unc l10 fun v11 l12 => asI .i64 v11 fun n13 => unc l12 fun v14 l15 => asI .i64 v14 fun n16 => unc l15 fun v17 l18 => asI .i64 v17 fun n19 => un0 l18 (storeS
 (orc vE) 3 (AV.mp 0 0) (AV.agg [AV.int .i64 n13, AV.int .i64 n16, AV.int .i64 n19]) [AV.int .i64 n13, AV.int .i64 n16, AV.int .i64 n19] st7 fun _x st21 _x_1 => loadS 3 true (AV.mp 0 0) st21 fun v23 _x => unA v23 fun l26
 => unc l26 fun v27 l28 => asI .i64 v27 fun n29 => unc l28 fun v30 l31 => asI .i64 v30 fun n32 => unc l31 fun v33 l34 => asI .i64 v33 fun n35 => un0 l34 (some (AV.agg [AV.int .i64 n29, AV.int .i64 n32, AV.int .i64
 n35])))))
theorem g32_eq (x0 : AV) : bareS vE 32 [x0] = g32 x0 := by kernel_rfl
/-- rostrum/rope.of -/
noncomputable def g33 : AV → Option AV := fun x0 => nilS (U.ptr 67) x0 AV.nilp fun b0 => ifB b0 (some (AV.agg [AV.int .i64 0, AV.int .i64 0, AV.int .i64 0])) (chk (notNil x0) (fldA 0 x0 fun v3 => loadS 3 true v3 (St.mk
 1 0 (Tr.node (some (VM.Obj.cells 64 [AV.int .i64 0, AV.int .i64 0, AV.int .i64 0])) Tr.leaf Tr.leaf)) fun v4 _x => unA v4 fun l7 => unc l7 fun v8 l9 => asI .i64 v8 fun n10 => unc l9 fun v11 l12 => asI .i64 v11 fun n13
 => unc l12 fun v14 l15 => asI .i64 v14 fun n16 => un0 l15 (some (AV.agg [AV.int .i64 n10, AV.int .i64 n13, AV.int .i64 n16]))))
theorem g33_eq (x0 : AV) : bareS vE 33 [x0] = g33 x0 := by kernel_rfl
/-- rostrum/rostrumref03.Ends -/
noncomputable def g35_L1 (l0 : List UInt8) : Car → Option (Car ⊕ Nat × Car) := fun c1 => unc (Prod.fst c1) fun v2 l3 => asI .i64 v2 fun n4 => unc l3 fun v5 l6 => asI .i64 v5 fun n7 => un0 l6 (ifB (decide (n7 <
 (↑(List.length l0) : Int))) (idxStr l0 n7 fun c8 => bindO (ifB ((↑(UInt8.toNat c8) : Int) == 10) (letV (IntKind.wrap .i64 (n4 + 1)) fun n9 => some ([AV.int .i64 n9], Prod.snd c1)) (some ([AV.int .i64 n4], Prod.snd c1)))
 fun c10 => unc (Prod.fst c10) fun v11 l12 => asI .i64 v11 fun n13 => un0 l12 (letV (IntKind.wrap .i64 (n7 + 1)) fun n14 => some (Sum.inl ([AV.int .i64 n13, AV.int .i64 n14], Prod.snd c10)))) (some (Sum.inr (0, [AV.int
 .i64 n4], Prod.snd c1))))
noncomputable def g35 : AV → Option AV := fun x0 => asS x0 fun l0 => bindO (loopO (g35_L1 l0) ([AV.int .i64 0, AV.int .i64 0], St.mk 0 0 Tr.leaf)) fun c15 => unc (Prod.fst (Prod.snd c15)) fun v16 l17 => asI .i64 v16 fun
 n18 => un0 l17 (some (AV.int .i64 n18))
theorem g35_eq (x0 : AV) : bareS vE 35 [x0] = g35 x0 := by kernel_rfl
/-- rostrum/rostrumref03.Most -/
noncomputable def g36_L1 : Car → Option (Car ⊕ Nat × Car) := fun c1 => unc (Prod.fst c1) fun v2 l3 => asI .i64 v2 fun n4 => unc l3 fun v5 l6 => asI .i64 v5 fun n7 => un0 l6 (ifB (decide (n7 > 0)) (letV (IntKind.wrap
 .i64 (n4 + 2)) fun n8 => letV (IntKind.wrap .i64 (Int.tdiv n7 2)) fun n9 => some (Sum.inl ([AV.int .i64 n8, AV.int .i64 n9], Prod.snd c1))) (some (Sum.inr (0, [AV.int .i64 n4], Prod.snd c1))))
noncomputable def g36 : AV → Option AV := fun x0 => asI .i64 x0 fun n0 => bindO (loopO g36_L1 ([AV.int .i64 2, AV.int .i64 n0], St.mk 0 0 Tr.leaf)) fun c10 => unc (Prod.fst (Prod.snd c10)) fun v11 l12 => asI .i64 v11
 fun n13 => un0 l12 (some (AV.int .i64 n13))
theorem g36_eq (x0 : AV) : bareS vE 36 [x0] = g36 x0 := by kernel_rfl
/-- rostrum/rope.part -/
noncomputable def g37 : AV → Option AV := fun x0 => asS x0 fun l0 => ifB (l0 == []) (some AV.nilp) (planS (orc vE) (primP (Prim.lib libCount) [AV.str l0, AV.str [10]]) (St.mk 0 0 Tr.leaf) fun v1 _x _x_1 => asI .i64 v1
 fun n4 => some (AV.ip [AV.int .i64 (↑(List.length l0) : Int), AV.int .i64 n4, AV.int .i64 1, AV.str l0, AV.nilp, AV.nilp]))
theorem g37_eq (x0 : AV) : bareS vE 37 [x0] = g37 x0 := by kernel_rfl
/-- rostrum/rope.level -/
noncomputable def g38 : AV → AV → Option AV := fun x0 x1 => callS (orc vE) 33 [x0] (St.mk 0 0 Tr.leaf) fun v0 st1 _x => unA v0 fun l4 => unc l4 fun v5 l6 => asI .i64 v5 fun n7 => unc l6 fun v8 l9 => asI .i64 v8 fun n10
 => unc l9 fun v11 l12 => asI .i64 v11 fun n13 => un0 l12 (callS (orc vE) 33 [x1] st1 fun v14 st15 _x => unA v14 fun l18 => unc l18 fun v19 l20 => asI .i64 v19 fun n21 => unc l20 fun v22 l23 => asI .i64 v22 fun n24 =>
 unc l23 fun v25 l26 => asI .i64 v25 fun n27 => un0 l26 (letSt (St.add st15 (VM.Obj.cells 64 [AV.int .i64 0, AV.int .i64 0, AV.int .i64 0])) fun st28 => letSt (St.add st28 (VM.Obj.cells 64 [AV.int .i64 0, AV.int .i64 0,
 AV.int .i64 0])) fun st29 => storeS (orc vE) 3 (AV.mp (St.h st15) 0) (AV.agg [AV.int .i64 n7, AV.int .i64 n10, AV.int .i64 n13]) [AV.int .i64 n7, AV.int .i64 n10, AV.int .i64 n13] st29 fun _x st31 _x_1 => storeS (orc
 vE) 3 (AV.mp (St.h st28) 0) (AV.agg [AV.int .i64 n21, AV.int .i64 n24, AV.int .i64 n27]) [AV.int .i64 n21, AV.int .i64 n24, AV.int .i64 n27] st31 fun _x st34 _x_2 => loadS 1 false (AV.mp (St.h st15) 2) st34 fun v36 _x
 => asI .i64 v36 fun n38 => loadS 1 false (AV.mp (St.h st28) 2) st34 fun v39 _x => asI .i64 v39 fun n41 => letV (IntKind.wrap .i64 (n41 + 1)) fun n42 => ifB (decide (n38 > n42)) (chk (notNil x0) (fldA 4 x0 fun v43 =>
 loadS 1 false v43 st34 fun v44 _x => callS (orc vE) 33 [v44] st34 fun v46 st47 x48 => unA v46 fun l50 => unc l50 fun v51 l52 => asI .i64 v51 fun _x => unc l52 fun v54 l55 => asI .i64 v54 fun _x => unc l55 fun v57 l58 =>
 asI .i64 v57 fun n59 => un0 l58 (chk (apart x48 (Fx.mk [] Did.kept) && true) (chk (notNil x0) (chk (apart x48 (Fx.mk [] Did.kept) && true) (fldA 5 x0 fun v60 => chk (apart x48 (Fx.mk [] Did.kept) && true) (loadS 1 false
 v60 st47 fun v61 l62 => chk (apart x48 (Fx.mk l62 Did.kept) && true) (callS (orc vE) 33 [v61] st47 fun v63 st64 x65 => unA v63 fun l67 => unc l67 fun v68 l69 => asI .i64 v68 fun _x => unc l69 fun v71 l72 => asI .i64 v71
 fun _x => unc l72 fun v74 l75 => asI .i64 v74 fun n76 => un0 l75 (chk (apart (Fx.mk [] Did.kept) x65 && true) (ifB (decide (n59 ≥ n76)) (chk (notNil x0) (fldA 4 x0 fun v77 => loadS 1 false v77 st64 fun v78 l79 => chk
 (notNil x0) (fldA 5 x0 fun v80 => loadS 1 false v80 st64 fun v81 _x => callS (orc vE) 39 [v81, x1] st64 fun v83 st84 x85 => chk (apart (Fx.mk l79 Did.kept) x85 && (apart (Fx.mk [] Did.kept) x85 && (apart (Fx.mk []
 Did.kept) x85 && (apart (Fx.mk [] Did.kept) x85 && true)))) (callS (orc vE) 39 [v78, v83] st84 fun v86 st87 _x => frzS st87 0 (oneOf [v86]) fun v89 => some v89)))) (chk (notNil x0) (fldA 4 x0 fun v90 => loadS 1 false
 v90 st64 fun v91 _x => chk (notNil x0) (fldA 5 x0 fun v93 => loadS 1 false v93 st64 fun v94 _x => chk (notNil v94) (fldA 4 v94 fun v96 => loadS 1 false v96 st64 fun v97 _x => callS (orc vE) 39 [v91, v97] st64 fun v99
 st100 x101 => chk (apart x101 (Fx.mk [] Did.kept) && true) (chk (notNil x0) (chk (apart x101 (Fx.mk [] Did.kept) && true) (fldA 5 x0 fun v102 => chk (apart x101 (Fx.mk [] Did.kept) && true) (loadS 1 false v102 st100 fun
 v103 l104 => chk (apart x101 (Fx.mk l104 Did.kept) && true) (chk (notNil v103) (chk (apart x101 (Fx.mk [] Did.kept) && true) (fldA 5 v103 fun v105 => chk (apart x101 (Fx.mk [] Did.kept) && true) (loadS 1 false v105
 st100 fun v106 l107 => chk (apart x101 (Fx.mk l107 Did.kept) && true) (chk (apart x101 (Fx.mk [] Did.kept) && true) (callS (orc vE) 39 [v106, x1] st100 fun v108 st109 _x => callS (orc vE) 39 [v99, v108] st109 fun v111
 st112 _x => frzS st112 0 (oneOf [v111]) fun v114 => some v114)))))))))))))))))))))))) (loadS 1 false (AV.mp (St.h st28) 2) st34 fun v115 _x => asI .i64 v115 fun n117 => loadS 1 false (AV.mp (St.h st15) 2) st34 fun v118
 _x => asI .i64 v118 fun n120 => letV (IntKind.wrap .i64 (n120 + 1)) fun n121 => ifB (decide (n117 > n121)) (chk (notNil x1) (fldA 5 x1 fun v122 => loadS 1 false v122 st34 fun v123 _x => callS (orc vE) 33 [v123] st34 fun
 v125 st126 x127 => unA v125 fun l129 => unc l129 fun v130 l131 => asI .i64 v130 fun _x => unc l131 fun v133 l134 => asI .i64 v133 fun _x => unc l134 fun v136 l137 => asI .i64 v136 fun n138 => un0 l137 (chk (apart x127
 (Fx.mk [] Did.kept) && true) (chk (notNil x1) (chk (apart x127 (Fx.mk [] Did.kept) && true) (fldA 4 x1 fun v139 => chk (apart x127 (Fx.mk [] Did.kept) && true) (loadS 1 false v139 st126 fun v140 l141 => chk (apart x127
 (Fx.mk l141 Did.kept) && true) (callS (orc vE) 33 [v140] st126 fun v142 st143 x144 => unA v142 fun l146 => unc l146 fun v147 l148 => asI .i64 v147 fun _x => unc l148 fun v150 l151 => asI .i64 v150 fun _x => unc l151 fun
 v153 l154 => asI .i64 v153 fun n155 => un0 l154 (chk (apart (Fx.mk [] Did.kept) x144 && true) (ifB (decide (n138 ≥ n155)) (chk (notNil x1) (fldA 4 x1 fun v156 => loadS 1 false v156 st143 fun v157 _x => callS (orc vE) 39
 [x0, v157] st143 fun v159 st160 x161 => chk (apart x161 (Fx.mk [] Did.kept) && true) (chk (notNil x1) (chk (apart x161 (Fx.mk [] Did.kept) && true) (fldA 5 x1 fun v162 => chk (apart x161 (Fx.mk [] Did.kept) && true)
 (loadS 1 false v162 st160 fun v163 l164 => chk (apart x161 (Fx.mk l164 Did.kept) && true) (callS (orc vE) 39 [v159, v163] st160 fun v165 st166 _x => frzS st166 0 (oneOf [v165]) fun v168 => some v168))))))) (chk (notNil
 x1) (fldA 4 x1 fun v169 => loadS 1 false v169 st143 fun v170 _x => chk (notNil v170) (fldA 4 v170 fun v172 => loadS 1 false v172 st143 fun v173 _x => callS (orc vE) 39 [x0, v173] st143 fun v175 st176 x177 => chk (apart
 x177 (Fx.mk [] Did.kept) && true) (chk (notNil x1) (chk (apart x177 (Fx.mk [] Did.kept) && true) (fldA 4 x1 fun v178 => chk (apart x177 (Fx.mk [] Did.kept) && true) (loadS 1 false v178 st176 fun v179 l180 => chk (apart
 x177 (Fx.mk l180 Did.kept) && true) (chk (notNil v179) (chk (apart x177 (Fx.mk [] Did.kept) && true) (fldA 5 v179 fun v181 => chk (apart x177 (Fx.mk [] Did.kept) && true) (loadS 1 false v181 st176 fun v182 l183 => chk
 (apart x177 (Fx.mk l183 Did.kept) && true) (chk (apart x177 (Fx.mk [] Did.kept) && true) (chk (notNil x1) (chk (apart x177 (Fx.mk [] Did.kept) && true) (fldA 5 x1 fun v184 => chk (apart x177 (Fx.mk [] Did.kept) && true)
 (loadS 1 false v184 st176 fun v185 l186 => chk (apart x177 (Fx.mk l186 Did.kept) && true) (callS (orc vE) 39 [v182, v185] st176 fun v187 st188 _x => callS (orc vE) 39 [v175, v187] st188 fun v190 st191 _x => frzS st191 0
 (oneOf [v190]) fun v193 => some v193))))))))))))))))))))))))))) (callS (orc vE) 39 [x0, x1] st34 fun v194 st195 _x => frzS st195 0 (oneOf [v194]) fun v197 => some v197))))
theorem g38_eq (x0 x1 : AV) : bareS vE 38 [x0, x1] = g38 x0 x1 := by kernel_rfl
/-- rostrum/rope.two -/
noncomputable def g39 : AV → AV → Option AV := fun x0 x1 => callS (orc vE) 33 [x0] (St.mk 0 0 Tr.leaf) fun v0 st1 _x => unA v0 fun l4 => unc l4 fun v5 l6 => asI .i64 v5 fun n7 => unc l6 fun v8 l9 => asI .i64 v8 fun n10
 => unc l9 fun v11 l12 => asI .i64 v11 fun n13 => un0 l12 (callS (orc vE) 33 [x1] st1 fun v14 st15 _x => unA v14 fun l18 => unc l18 fun v19 l20 => asI .i64 v19 fun n21 => unc l20 fun v22 l23 => asI .i64 v22 fun n24 =>
 unc l23 fun v25 l26 => asI .i64 v25 fun n27 => un0 l26 (letSt (St.add st15 (VM.Obj.cells 64 [AV.int .i64 0, AV.int .i64 0, AV.int .i64 0])) fun st28 => letSt (St.add st28 (VM.Obj.cells 64 [AV.int .i64 0, AV.int .i64 0,
 AV.int .i64 0])) fun st29 => storeS (orc vE) 3 (AV.mp (St.h st15) 0) (AV.agg [AV.int .i64 n7, AV.int .i64 n10, AV.int .i64 n13]) [AV.int .i64 n7, AV.int .i64 n10, AV.int .i64 n13] st29 fun _x st31 _x_1 => storeS (orc
 vE) 3 (AV.mp (St.h st28) 0) (AV.agg [AV.int .i64 n21, AV.int .i64 n24, AV.int .i64 n27]) [AV.int .i64 n21, AV.int .i64 n24, AV.int .i64 n27] st31 fun _x st34 _x_2 => loadS 1 false (AV.mp (St.h st15) 0) st34 fun v36 _x
 => asI .i64 v36 fun n38 => loadS 1 false (AV.mp (St.h st28) 0) st34 fun v39 _x => asI .i64 v39 fun n41 => letV (IntKind.wrap .i64 (n38 + n41)) fun n42 => loadS 1 false (AV.mp (St.h st15) 1) st34 fun v43 _x => asI .i64
 v43 fun n45 => loadS 1 false (AV.mp (St.h st28) 1) st34 fun v46 _x => asI .i64 v46 fun n48 => letV (IntKind.wrap .i64 (n45 + n48)) fun n49 => loadS 1 false (AV.mp (St.h st15) 2) st34 fun v50 _x => asI .i64 v50 fun n52
 => loadS 1 false (AV.mp (St.h st28) 2) st34 fun v53 _x => asI .i64 v53 fun n55 => letV (if n55 > n52 then n55 else n52) fun n56 => letV (IntKind.wrap .i64 (1 + n56)) fun n57 => asOne x0 (asOne x1 (asOne x0 (asOne x1
 (fit1 x0 fun v60 => fit1 x1 fun v61 => some (AV.ip [AV.int .i64 n42, AV.int .i64 n49, AV.int .i64 n57, AV.str [], v60, v61])))))))
theorem g39_eq (x0 x1 : AV) : bareS vE 39 [x0, x1] = g39 x0 x1 := by kernel_rfl
/-- (*rostrum/rope.tree).write -/
noncomputable def w40 : AV → AV → St → Option (AV × St) := fun x0 x1 st => nilS (U.ptr 67) x0 AV.nilp fun b0 => ifB b0 (some (AV.tup [], st)) (chk (notNil x0) (fldA 3 x0 fun v1 => loadS 1 false v1 st fun v2 _x => asS v2
 fun l4 => callS (orc vE) 45 [x1, AV.str l4] st fun _x st6 _x_1 => chk (notNil x0) (fldA 4 x0 fun v8 => loadS 1 false v8 st6 fun v9 _x => callS (orc vE) 40 [v9, x1] st6 fun _x st12 _x_2 => chk (notNil x0) (fldA 5 x0 fun
 v14 => loadS 1 false v14 st12 fun v15 _x => callS (orc vE) 40 [v15, x1] st12 fun _x st18 _x_3 => some (AV.tup [], st18)))))
theorem w40_eq (x0 x1 : AV) (st : St) : wideS vE 40 [x0, x1] st = w40 x0 x1 st := by kernel_rfl
/-- (*strings.Builder).WriteString -/
noncomputable def w45 : AV → AV → St → Option (AV × St) := fun x0 x1 st => asS x1 fun l0 => planS (orc vE) (primP (Prim.copyCheck [(74, 2, 0), (75, 2, 0)]) [x0]) st fun _x st2 _x_1 => chk (notNil x0) (fldA 1 x0 fun v4
 => loadS 1 false v4 st2 fun v5 _x => fitTs false (ofBytes l0) fun l7 => chk (sizesOk 1 l7) (appS 1 1 5 v5 l7 st2 fun v8 st9 _x => chk (notNil x0) (fldA 1 x0 fun v11 => asOne v8 (asOne v8 (storeS (orc vE) 1 v11 v8 [v8]
 st9 fun _x st13 _x_2 => some (AV.tup [AV.int .i64 (↑(List.length l0) : Int), AV.nili], st13))))))
theorem w45_eq (x0 x1 : AV) (st : St) : wideS vE 45 [x0, x1] st = w45 x0 x1 st := by kernel_rfl
end Go.Proofs.Ytdfofconhfhgdaa.Vm
/- Ropes: trees as data; of, part, two. -/
set_option maxRecDepth 100000
set_option linter.unusedSimpArgs false
namespace Go.Proofs.Ytdfofconhfhgdaa.Vm
open Go Go.VM Go.Proofs

inductive T where
  | nil
  | leaf (s : List UInt8)
  | node (l r : T)
namespace T
def size : T → Nat
  | nil => 0
  | leaf s => s.length
  | node l r => l.size + r.size
def ends : T → Nat
  | nil => 0
  | leaf s => s.count 10
  | node l r => l.ends + r.ends
def depth : T → Nat
  | nil => 0
  | leaf _ => 1
  | node l r => 1 + max l.depth r.depth
def text : T → List UInt8
  | nil => []
  | leaf s => s
  | node l r => l.text ++ r.text
def own : T → List UInt8
  | leaf s => s
  | _ => []
def left : T → T
  | node l _ => l
  | _ => nil
def right : T → T
  | node _ r => r
  | _ => nil
def enc : T → AV
  | nil => .nilp
  | leaf s => .ip [.int .i64 (s.length : Int), .int .i64 (s.count 10 : Int), .int .i64 1, .str s, .nilp, .nilp]
  | node l r => .ip [.int .i64 ((node l r).size : Int), .int .i64 ((node l r).ends : Int), .int .i64 ((node l r).depth : Int), .str [], l.enc, r.enc]
theorem size_text : ∀ t : T, t.text.length = t.size
  | nil => rfl
  | leaf _ => rfl
  | node l r => by simp [text, size, size_text l, size_text r]
theorem ends_text : ∀ t : T, t.text.count 10 = t.ends
  | nil => rfl
  | leaf _ => rfl
  | node l r => by simp [text, ends, ends_text l, ends_text r]
theorem ends_le (t : T) : t.ends ≤ t.size := by
  rw [← ends_text, ← size_text]; exact List.count_le_length
def isNil : T → Bool
  | nil => true
  | _ => false
theorem enc_cells {t : T} (h : t.isNil = false) : t.enc = .ip [.int .i64 (t.size : Int), .int .i64 (t.ends : Int), .int .i64 (t.depth : Int), .str t.own, t.left.enc, t.right.enc] := by
  cases t with
  | nil => cases h
  | leaf s => rfl
  | node l r => rfl
theorem bare_enc (t : T) : VM.bare t.enc = true := by cases t <;> rfl
theorem strip_enc (t : T) : strip t.enc = t.enc := by cases t <;> rfl
theorem one_enc (t : T) : VM.one t.enc = true := by cases t <;> rfl
theorem fz_enc (t : T) : Fz 1 t.enc := by
  cases t with
  | nil => exact fz_nilp
  | leaf s => exact fz_ip _
  | node l r => exact fz_ip _
theorem asOne_enc {β : Type} (t : T) (K : Option β) : asOne t.enc K = K := asOne_of t.one_enc K
theorem fit1_enc {β : Type} (t : T) (K : AV → Option β) : fit1 t.enc K = K t.enc := by cases t <;> rfl
theorem frz_enc {β : Type} (t : T) (st : St) (b : Nat) (K : AV → Option β) : frzS st b t.enc K = K t.enc := frz_of t.fz_enc (by omega) t.bare_enc st b K
theorem frz_two {β : Type} (a b : T) (st : St) (k : Nat) (K : AV → Option β) : frzS st k (.tup [a.enc, b.enc]) K = K (.tup [a.enc, b.enc]) := by
  refine frz_of (d := 2) (fz_tup ?_) (by omega) ?_ st k K
  · intro c hc
    simp only [List.mem_cons, List.not_mem_nil, or_false] at hc
    rcases hc with rfl | rfl
    · exact fz_enc _
    · exact fz_enc _
  · simp only [bare_tup, bares_cons, bare_enc]; rfl
theorem nil_enc {β : Type} (t : T) (k : TypeId) (K : Bool → Option β) : nilS (.ptr k) t.enc .nilp K = K t.isNil := by cases t <;> rfl
end T
open T
@[simp] theorem oneOf_one (v : AV) : oneOf [v] = v := id rfl
@[simp] theorem notNil_ip (cs : List AV) : notNil (.ip cs) = true := id rfl
@[simp] theorem notNil_mp (i o : Nat) : notNil (.mp i o) = true := id rfl
@[simp] theorem drop3 (a b c : AV) (l : List AV) : (a :: b :: c :: l).drop 3 = l := id rfl
@[simp] theorem drop2 (a b : AV) (l : List AV) : (a :: b :: l).drop 2 = l := id rfl
@[simp] theorem drop4 (a b c d : AV) (l : List AV) : (a :: b :: c :: d :: l).drop 4 = l := id rfl
@[simp] theorem drop5 (a b c d e : AV) (l : List AV) : (a :: b :: c :: d :: e :: l).drop 5 = l := id rfl
@[simp] theorem takeO_three (a b c : AV) (l : List AV) : takeO 3 true (a :: b :: c :: l) = some (.agg [a, b, c]) := id rfl

/-- What is known of a tree. -/
def kn (t : T) : AV := .agg [.int .i64 (t.size : Int), .int .i64 (t.ends : Int), .int .i64 (t.depth : Int)]
theorem of_ok (t : T) : (orc vE).bare 33 [t.enc] = some (kn t) := by
  refine bare_of rfl ((g33_eq _).trans ?_)
  simp only [g33, T.nil_enc]
  cases h : t.isNil with
  | true =>
    cases t with
    | nil => rfl
    | leaf s => cases h
    | node l r => cases h
  | false =>
    rw [enc_cells h]
    simp only [ifB_false, notNil_ip, chk_true, fldA_ip, List.drop_zero, loadS_ip, takeO_three, bindO_ok, unA_agg, unc_cons, asI_int, un0_nil, kn]
theorem call_bare1 {β : Type} {f : FuncId} {t : T} {r : AV} (st : St) (K : Kv β) (hf : vE.full f = false) (h : (orc vE).bare f [t.enc] = some r) : callS (orc vE) f [t.enc] st K = K r st q0 :=
  callS_bare st K hf (by simp [strip_enc]) (by simp [bares_cons, bare_enc]; rfl) h
theorem call_of {β : Type} (t : T) (st : St) (K : Kv β) : callS (orc vE) 33 [t.enc] st K = K (kn t) st q0 := call_bare1 st K rfl (of_ok t)
theorem countB (s : List UInt8) (c : UInt8) : Lib.countByte s c = s.count c := rfl
theorem count_lib {β : Type} (s : List UInt8) (c : UInt8) (st : St) (K : Kv β) : planS (orc vE) (primP (.lib libCount) [.str s, .str [c]]) st K = K (.int .i64 (s.count c : Int)) st q0 := rfl
/-- A part. -/
def partT (s : List UInt8) : T := if s = [] then .nil else .leaf s
theorem part_ok (s : List UInt8) : (orc vE).bare 37 [.str s] = some (partT s).enc := by
  refine bare_of rfl ((g37_eq _).trans ?_)
  cases s with
  | nil => rfl
  | cons b l => 
    have e : ((b :: l) == ([] : List UInt8)) = false := rfl
    simp only [g37, asS_str, e, ifB_false, count_lib, asI_int, partT]
    rfl
theorem call_part {β : Type} (s : List UInt8) (st : St) (K : Kv β) : callS (orc vE) 37 [.str s] st K = K (partT s).enc st q0 := callS_bare st K rfl rfl rfl (part_ok s)
theorem wrapN {n : Nat} (h : n ≤ 9223372036854775807) : IntKind.wrap .i64 (n : Int) = (n : Int) := wrap_i64 (by omega) (by omega)

/-- Two local variables, each of three numbers. -/
abbrev S0 : St := St.mk 0 0 Tr.leaf
def S2 (a b c d e f : Int) : St := ⟨2, 0, .node (some (.cells 64 [.int .i64 a, .int .i64 b, .int .i64 c])) (.node (some (.cells 64 [.int .i64 d, .int .i64 e, .int .i64 f])) .leaf .leaf) .leaf⟩
def S2' (a b c : Int) : St := ⟨2, 0, .node (some (.cells 64 [.int .i64 a, .int .i64 b, .int .i64 c])) (.node (some (.cells 64 [.int .i64 0, .int .i64 0, .int .i64 0])) .leaf .leaf) .leaf⟩
section
variable {β : Type} (a b c d e f : Int)
abbrev O3 : VM.Obj := VM.Obj.cells 64 [AV.int .i64 0, AV.int .i64 0, AV.int .i64 0]
theorem h0 : St.h S0 = 0 := rfl
theorem h1 : St.h (St.add S0 O3) = 1 := rfl
theorem st_one (K : Kv β) : storeS (orc vE) 3 (.mp 0 0) (.agg [.int .i64 a, .int .i64 b, .int .i64 c]) [.int .i64 a, .int .i64 b, .int .i64 c] (St.add (St.add S0 O3) O3) K = K VM.undef (S2' a b c) ⟨[0], .wrote 0 (.cells 64 [.int .i64 a, .int .i64 b, .int .i64 c])⟩ := rfl
theorem st_two (K : Kv β) : storeS (orc vE) 3 (.mp 1 0) (.agg [.int .i64 d, .int .i64 e, .int .i64 f]) [.int .i64 d, .int .i64 e, .int .i64 f] (S2' a b c) K = K VM.undef (S2 a b c d e f) ⟨[1], .wrote 1 (.cells 64 [.int .i64 d, .int .i64 e, .int .i64 f])⟩ := rfl
theorem ld_00 (K : AV → List Nat → Option β) : loadS 1 false (.mp 0 0) (S2 a b c d e f) K = K (.int .i64 a) [0] := rfl
theorem ld_01 (K : AV → List Nat → Option β) : loadS 1 false (.mp 0 1) (S2 a b c d e f) K = K (.int .i64 b) [0] := rfl
theorem ld_02 (K : AV → List Nat → Option β) : loadS 1 false (.mp 0 2) (S2 a b c d e f) K = K (.int .i64 c) [0] := rfl
theorem ld_10 (K : AV → List Nat → Option β) : loadS 1 false (.mp 1 0) (S2 a b c d e f) K = K (.int .i64 d) [1] := rfl
theorem ld_11 (K : AV → List Nat → Option β) : loadS 1 false (.mp 1 1) (S2 a b c d e f) K = K (.int .i64 e) [1] := rfl
theorem ld_12 (K : AV → List Nat → Option β) : loadS 1 false (.mp 1 2) (S2 a b c d e f) K = K (.int .i64 f) [1] := rfl
end
theorem max_if (a b : Nat) : (if (b : Int) > (a : Int) then (b : Int) else (a : Int)) = ((max a b : Nat) : Int) := by
  split <;> omega
theorem two_ok (a b : T) (hs : a.size + b.size ≤ 1000000000) (hd : max a.depth b.depth ≤ 1000000000) : (orc vE).bare 39 [a.enc, b.enc] = some (node a b).enc := by
  refine bare_of rfl ((g39_eq _ _).trans ?_)
  have e1 := a.ends_le
  have e2 := b.ends_le
  have w1 : IntKind.wrap .i64 ((a.size : Int) + (b.size : Int)) = ((a.size + b.size : Nat) : Int) := by rw [← Int.natCast_add]; exact wrapN (by omega)
  have w2 : IntKind.wrap .i64 ((a.ends : Int) + (b.ends : Int)) = ((a.ends + b.ends : Nat) : Int) := by rw [← Int.natCast_add]; exact wrapN (by omega)
  have w3 : IntKind.wrap .i64 (1 + ((max a.depth b.depth : Nat) : Int)) = ((1 + max a.depth b.depth : Nat) : Int) := by
    have := wrapN (n := 1 + max a.depth b.depth) (by omega)
    rw [← this]; congr 1
  simp only [g39, call_of, kn, unA_agg, unc_cons, asI_int, un0_nil, letSt_eq, h0, h1, st_one, st_two, ld_00, ld_01, ld_02, ld_10, ld_11, ld_12, letV_eq, asOne_enc, fit1_enc, max_if, w1, w2, w3]
  rfl
theorem call_two {β : Type} {f : FuncId} {a b : T} {r : AV} (st : St) (K : Kv β) (hf : vE.full f = false) (h : (orc vE).bare f [a.enc, b.enc] = some r) : callS (orc vE) f [a.enc, b.enc] st K = K r st q0 :=
  callS_bare st K hf (by simp [strip_enc]) (by simp [bares_cons, bare_enc]; rfl) h
end Go.Proofs.Ytdfofconhfhgdaa.Vm
/- Ropes: level, join. -/
set_option maxRecDepth 100000
set_option linter.unusedSimpArgs false
namespace Go.Proofs.Ytdfofconhfhgdaa.Vm
open Go Go.VM Go.Proofs
open T

/-- In balance. -/
def WF : T → Prop
  | .nil => True
  | .leaf s => s ≠ []
  | .node l r => l.isNil = false ∧ r.isNil = false ∧ WF l ∧ WF r ∧ l.depth ≤ r.depth + 1 ∧ r.depth ≤ l.depth + 1
theorem depth_pos {t : T} (h : t.isNil = false) : 1 ≤ t.depth := by
  cases t with
  | nil => cases h
  | leaf s => exact Nat.le_refl _
  | node l r => simp only [T.depth]; omega
theorem size_pos : ∀ {t : T}, WF t → t.isNil = false → 1 ≤ t.size
  | .nil, _, h => by cases h
  | .leaf s, w, _ => by
    cases s with
    | nil => exact absurd rfl w
    | cons b l => simp [T.size]
  | .node l r, w, _ => by
    have := size_pos w.2.2.1 w.1
    simp only [T.size]; omega
theorem depth_size : ∀ {t : T}, WF t → t.depth ≤ t.size
  | .nil, _ => Nat.le_refl _
  | .leaf s, w => size_pos (t := .leaf s) w rfl
  | .node l r, w => by
    have h1 := depth_size w.2.2.1
    have h2 := depth_size w.2.2.2.1
    have h3 := size_pos w.2.2.1 w.1
    have h4 := size_pos w.2.2.2.1 w.2.1
    simp only [T.size, T.depth]; omega
theorem nil_of {t : T} (h : t.isNil = true) : t = .nil := by cases t <;> first | rfl | cases h
theorem isNil_depth {t : T} (h : 1 ≤ t.depth) : t.isNil = false := by
  cases t with
  | nil => simp [T.depth] at h
  | leaf s => rfl
  | node l r => rfl
theorem node_of {t : T} (h : 2 ≤ t.depth) : t = .node t.left t.right := by
  cases t with
  | nil => simp [T.depth] at h
  | leaf s => simp [T.depth] at h
  | node l r => rfl
theorem leaf_of {t : T} (w : WF t) (h : t.depth = 1) : t = .leaf t.own := by
  cases t with
  | nil => simp [T.depth] at h
  | leaf s => rfl
  | node l r =>
    have := depth_pos w.1
    simp only [T.depth] at h; omega
/-- What comes of two trees that are put together. -/
structure Joined (a b t : T) : Prop where
  wf : WF t
  text : t.text = a.text ++ b.text
  lo : max a.depth b.depth ≤ t.depth
  hi : t.depth ≤ max a.depth b.depth + 1
theorem Joined.size {a b t : T} (h : Joined a b t) : t.size = a.size + b.size := by
  rw [← size_text, h.text, List.length_append, size_text, size_text]
theorem joined_two {a b : T} (ha : a.isNil = false) (hb : b.isNil = false) (wa : WF a) (wb : WF b) (h1 : a.depth ≤ b.depth + 1) (h2 : b.depth ≤ a.depth + 1) : Joined a b (.node a b) :=
  ⟨⟨ha, hb, wa, wb, h1, h2⟩, rfl, by simp only [T.depth]; omega, by simp only [T.depth]; omega⟩
theorem level_ok {a b : T} (ha : a.isNil = false) (hb : b.isNil = false) (wa : WF a) (wb : WF b) (d1 : a.depth ≤ b.depth + 2) (d2 : b.depth ≤ a.depth + 2) (hs : a.size + b.size ≤ 100000000) :
    ∃ t, (orc vE).bare 38 [a.enc, b.enc] = some t.enc ∧ Joined a b t ∧ (a.depth ≤ b.depth + 1 → b.depth ≤ a.depth + 1 → t.depth = max a.depth b.depth + 1) := by
  have da := depth_size wa
  have db := depth_size wb
  have pa := depth_pos ha
  have pb := depth_pos hb
  have wr1 : IntKind.wrap .i64 ((b.depth : Int) + 1) = ((b.depth + 1 : Nat) : Int) := by rw [← wrapN (n := b.depth + 1) (by omega)]; rfl
  have wr2 : IntKind.wrap .i64 ((a.depth : Int) + 1) = ((a.depth + 1 : Nat) : Int) := by rw [← wrapN (n := a.depth + 1) (by omega)]; rfl
  by_cases c1 : a.depth > b.depth + 1
  · have c1' : (a.depth : Int) > ((b.depth + 1 : Nat) : Int) := by omega
    obtain ⟨l, r, rfl⟩ : ∃ l r, a = .node l r := ⟨_, _, node_of (by omega)⟩
    obtain ⟨hl, hr, wl, wrr, b1, b2⟩ := wa
    simp only [T.depth] at d1 d2 c1 da
    simp only [T.size] at da hs
    have dl := depth_size wl
    have dr := depth_size wrr
    by_cases c2 : l.depth ≥ r.depth
    · have c2' : (l.depth : Int) ≥ (r.depth : Int) := by omega
      refine ⟨.node l (.node r b), bare_of rfl ((g38_eq _ _).trans ?_), ⟨⟨hl, rfl, wl, ⟨hr, hb, wrr, wb, ?_, ?_⟩, ?_, ?_⟩, ?_, ?_, ?_⟩, ?_⟩
      · have e1 := fun {β : Type} (st : St) (K : Kv β) => call_two st K rfl (two_ok r b (by omega) (by omega))
        have e2 := fun {β : Type} (st : St) (K : Kv β) => call_two st K rfl (two_ok l (.node r b) (by simp only [T.size]; omega) (by simp only [T.depth]; omega))
        simp only [g38, call_of, kn, unA_agg, unc_cons, asI_int, un0_nil, letSt_eq, h0, Vm.h1, st_one, st_two, ld_00, ld_01, ld_02, ld_10, ld_11, ld_12, letV_eq, wr1, wr2, ifB_decide, if_pos c1']
        simp only [enc_cells (t := .node l r) rfl, notNil_ip, chk_true, fldA_ip, drop4, drop5, loadS_ip, takeO_one, bindO_ok, T.left, T.right, call_of, kn, unA_agg, unc_cons, asI_int, un0_nil, apart_kept, apart_kept2, Bool.and_self, ifB_decide, oneOf_one, frz_enc, if_pos c2', e1, e2]
      all_goals try simp only [T.depth, T.text, List.append_assoc]
      all_goals try omega
    · have c2' : ¬ (l.depth : Int) ≥ (r.depth : Int) := by omega
      obtain ⟨rl, rr, rfl⟩ : ∃ rl rr, r = .node rl rr := ⟨_, _, node_of (by have := depth_pos hl; omega)⟩
      obtain ⟨hrl, hrr, wrl, wrr2, b3, b4⟩ := wrr
      have drl := depth_size wrl
      have drr := depth_size wrr2
      simp only [T.depth] at d1 d2 c1 da b1 b2 c2 dr
      simp only [T.size] at da hs dr
      refine ⟨.node (.node l rl) (.node rr b), bare_of rfl ((g38_eq _ _).trans ?_), ⟨⟨rfl, rfl, ⟨hl, hrl, wl, wrl, ?_, ?_⟩, ⟨hrr, hb, wrr2, wb, ?_, ?_⟩, ?_, ?_⟩, ?_, ?_, ?_⟩, ?_⟩
      · have e1 := fun {β : Type} (st : St) (K : Kv β) => call_two st K rfl (two_ok l rl (by omega) (by omega))
        have e2 := fun {β : Type} (st : St) (K : Kv β) => call_two st K rfl (two_ok rr b (by omega) (by omega))
        have e3 := fun {β : Type} (st : St) (K : Kv β) => call_two st K rfl (two_ok (.node l rl) (.node rr b) (by simp only [T.size]; omega) (by simp only [T.depth]; omega))
        simp only [g38, call_of, kn, unA_agg, unc_cons, asI_int, un0_nil, letSt_eq, h0, Vm.h1, st_one, st_two, ld_00, ld_01, ld_02, ld_10, ld_11, ld_12, letV_eq, wr1, wr2, ifB_decide, if_pos c1']
        simp only [enc_cells (t := .node l (.node rl rr)) rfl, notNil_ip, chk_true, fldA_ip, drop4, drop5, loadS_ip, takeO_one, bindO_ok, T.left, T.right, call_of, kn, unA_agg, unc_cons, asI_int, un0_nil, apart_kept, apart_kept2, Bool.and_self, ifB_decide, oneOf_one, frz_enc, if_neg c2']
        simp only [enc_cells (t := .node rl rr) rfl, notNil_ip, chk_true, fldA_ip, drop4, drop5, loadS_ip, takeO_one, bindO_ok, T.left, T.right, call_of, kn, unA_agg, unc_cons, asI_int, un0_nil, apart_kept, apart_kept2, Bool.and_self, ifB_decide, oneOf_one, frz_enc, e1, e2, e3]
      all_goals try simp only [T.depth, T.text, List.append_assoc]
      all_goals try omega
  have c1' : ¬ (a.depth : Int) > ((b.depth + 1 : Nat) : Int) := by omega
  by_cases c3 : b.depth > a.depth + 1
  · have c3' : (b.depth : Int) > ((a.depth + 1 : Nat) : Int) := by omega
    obtain ⟨l, r, rfl⟩ : ∃ l r, b = .node l r := ⟨_, _, node_of (by omega)⟩
    obtain ⟨hl, hr, wl, wrr, b1, b2⟩ := wb
    simp only [T.depth] at d1 d2 c1 db c3
    simp only [T.size] at db hs
    have dl := depth_size wl
    have dr := depth_size wrr
    by_cases c2 : r.depth ≥ l.depth
    · have c2' : (r.depth : Int) ≥ (l.depth : Int) := by omega
      refine ⟨.node (.node a l) r, bare_of rfl ((g38_eq _ _).trans ?_), ⟨⟨rfl, hr, ⟨ha, hl, wa, wl, ?_, ?_⟩, wrr, ?_, ?_⟩, ?_, ?_, ?_⟩, ?_⟩
      · have e1 := fun {β : Type} (st : St) (K : Kv β) => call_two st K rfl (two_ok a l (by omega) (by omega))
        have e2 := fun {β : Type} (st : St) (K : Kv β) => call_two st K rfl (two_ok (.node a l) r (by simp only [T.size]; omega) (by simp only [T.depth]; omega))
        simp only [g38, call_of, kn, unA_agg, unc_cons, asI_int, un0_nil, letSt_eq, h0, Vm.h1, st_one, st_two, ld_00, ld_01, ld_02, ld_10, ld_11, ld_12, letV_eq, wr1, wr2, ifB_decide, if_neg c1', if_pos c3']
        simp only [enc_cells (t := .node l r) rfl, notNil_ip, chk_true, fldA_ip, drop4, drop5, loadS_ip, takeO_one, bindO_ok, T.left, T.right, call_of, kn, unA_agg, unc_cons, asI_int, un0_nil, apart_kept, apart_kept2, Bool.and_self, ifB_decide, oneOf_one, frz_enc, if_pos c2', e1, e2]
      all_goals try simp only [T.depth, T.text, List.append_assoc]
      all_goals try omega
    · have c2' : ¬ (r.depth : Int) ≥ (l.depth : Int) := by omega
      obtain ⟨ll, lr, rfl⟩ : ∃ ll lr, l = .node ll lr := ⟨_, _, node_of (by have := depth_pos hr; omega)⟩
      obtain ⟨hll, hlr, wll, wlr, b3, b4⟩ := wl
      have dll := depth_size wll
      have dlr := depth_size wlr
      simp only [T.depth] at d1 d2 c1 db b1 b2 c2 c3 dl
      simp only [T.size] at db hs dl
      refine ⟨.node (.node a ll) (.node lr r), bare_of rfl ((g38_eq _ _).trans ?_), ⟨⟨rfl, rfl, ⟨ha, hll, wa, wll, ?_, ?_⟩, ⟨hlr, hr, wlr, wrr, ?_, ?_⟩, ?_, ?_⟩, ?_, ?_, ?_⟩, ?_⟩
      · have e1 := fun {β : Type} (st : St) (K : Kv β) => call_two st K rfl (two_ok a ll (by omega) (by omega))
        have e2 := fun {β : Type} (st : St) (K : Kv β) => call_two st K rfl (two_ok lr r (by omega) (by omega))
        have e3 := fun {β : Type} (st : St) (K : Kv β) => call_two st K rfl (two_ok (.node a ll) (.node lr r) (by simp only [T.size]; omega) (by simp only [T.depth]; omega))
        simp only [g38, call_of, kn, unA_agg, unc_cons, asI_int, un0_nil, letSt_eq, h0, Vm.h1, st_one, st_two, ld_00, ld_01, ld_02, ld_10, ld_11, ld_12, letV_eq, wr1, wr2, ifB_decide, if_neg c1', if_pos c3']
        simp only [enc_cells (t := .node (.node ll lr) r) rfl, notNil_ip, chk_true, fldA_ip, drop4, drop5, loadS_ip, takeO_one, bindO_ok, T.left, T.right, call_of, kn, unA_agg, unc_cons, asI_int, un0_nil, apart_kept, apart_kept2, Bool.and_self, ifB_decide, oneOf_one, frz_enc, if_neg c2']
        simp only [enc_cells (t := .node ll lr) rfl, notNil_ip, chk_true, fldA_ip, drop4, drop5, loadS_ip, takeO_one, bindO_ok, T.left, T.right, call_of, kn, unA_agg, unc_cons, asI_int, un0_nil, apart_kept, apart_kept2, Bool.and_self, ifB_decide, oneOf_one, frz_enc, e1, e2, e3]
      all_goals try simp only [T.depth, T.text, List.append_assoc]
      all_goals try omega
  · have c3' : ¬ (b.depth : Int) > ((a.depth + 1 : Nat) : Int) := by omega
    refine ⟨.node a b, bare_of rfl ((g38_eq _ _).trans ?_), joined_two ha hb wa wb (by omega) (by omega), fun _ _ => by simp only [T.depth]; omega⟩
    have e1 := fun {β : Type} (st : St) (K : Kv β) => call_two st K rfl (two_ok a b (by omega) (by omega))
    simp only [g38, call_of, kn, unA_agg, unc_cons, asI_int, un0_nil, letSt_eq, h0, Vm.h1, st_one, st_two, ld_00, ld_01, ld_02, ld_10, ld_11, ld_12, letV_eq, wr1, wr2, ifB_decide, if_neg c1', if_neg c3', e1, frz_enc, oneOf_one]
end Go.Proofs.Ytdfofconhfhgdaa.Vm
/- Ropes: join, grown, split. -/
set_option maxRecDepth 100000
set_option linter.unusedSimpArgs false
namespace Go.Proofs.Ytdfofconhfhgdaa.Vm
open Go Go.VM Go.Proofs
open T

theorem join_ok (n : Nat) : ∀ (a b : T), WF a → WF b → a.size + b.size ≤ n → n ≤ 100000000 → ∃ t, (orc vE).bare 30 [a.enc, b.enc] = some t.enc ∧ Joined a b t := by
  induction n using Nat.strongRecOn with
  | _ n ih =>
  intro a b wa wb hn hs
  have da := depth_size wa
  have db := depth_size wb
  have wr1 : IntKind.wrap .i64 ((b.depth : Int) + 1) = ((b.depth + 1 : Nat) : Int) := by rw [← wrapN (n := b.depth + 1) (by omega)]; rfl
  have wr2 : IntKind.wrap .i64 ((a.depth : Int) + 1) = ((a.depth + 1 : Nat) : Int) := by rw [← wrapN (n := a.depth + 1) (by omega)]; rfl
  have wr3 : IntKind.wrap .i64 ((a.size : Int) + (b.size : Int)) = ((a.size + b.size : Nat) : Int) := by rw [← wrapN (n := a.size + b.size) (by omega)]; rfl
  cases ha : a.isNil with
  | true =>
    refine ⟨b, bare_of rfl ((g30_eq _ _).trans ?_), ?_⟩
    · simp only [g30, call_of, kn, unA_agg, unc_cons, asI_int, un0_nil, letSt_eq, h0, Vm.h1, st_one, st_two, ld_00, ld_01, ld_02, ld_10, ld_11, ld_12, letV_eq, wr1, wr2, ifB_decide, T.nil_enc, ha, ifB_true, oneOf_one, frz_enc]
    · rw [nil_of ha]; exact ⟨wb, rfl, by simp [T.depth], by simp [T.depth]⟩
  | false =>
  cases hb : b.isNil with
  | true =>
    refine ⟨a, bare_of rfl ((g30_eq _ _).trans ?_), ?_⟩
    · simp only [g30, call_of, kn, unA_agg, unc_cons, asI_int, un0_nil, letSt_eq, h0, Vm.h1, st_one, st_two, ld_00, ld_01, ld_02, ld_10, ld_11, ld_12, letV_eq, wr1, wr2, ifB_decide, T.nil_enc, ha, hb, ifB_true, ifB_false, oneOf_one, frz_enc]
    · rw [nil_of hb]; exact ⟨wa, by simp [T.text], by simp [T.depth], by simp [T.depth]⟩
  | false =>
  have pa := depth_pos ha
  have pb := depth_pos hb
  by_cases c0 : a.depth = 1 ∧ b.depth = 1 ∧ a.size + b.size ≤ 128
  · obtain ⟨k1, k2, k3⟩ := c0
    have q1 : (a.depth : Int) = 1 := by omega
    have q2 : (b.depth : Int) = 1 := by omega
    have q3 : ((a.size + b.size : Nat) : Int) ≤ 128 := by omega
    have la := leaf_of wa k1
    have lb := leaf_of wb k2
    have sa : a.own.length = a.size := by rw [la]; rfl
    have sb : b.own.length = b.size := by rw [lb]; rfl
    have hl : (a.own.length + b.own.length).ble 9223372036854775807 = true := Nat.ble_eq_true_of_le (by omega)
    have ne : a.own ++ b.own ≠ [] := by
      intro h
      have := size_pos wa ha
      have := congrArg List.length h
      simp only [List.length_append, List.length_nil] at this
      omega
    have hp : partT (a.own ++ b.own) = .leaf (a.own ++ b.own) := by rw [partT, if_neg ne]
    refine ⟨.leaf (a.own ++ b.own), bare_of rfl ((g30_eq _ _).trans ?_), ⟨ne, ?_, ?_, ?_⟩⟩
    · simp only [g30, call_of, kn, unA_agg, unc_cons, asI_int, un0_nil, letSt_eq, h0, Vm.h1, st_one, st_two, ld_00, ld_01, ld_02, ld_10, ld_11, ld_12, letV_eq, wr1, wr2, ifB_decide, T.nil_enc, ha, hb, ifB_false, ifB_beq, if_pos q1, if_pos q2, wr3, bindO_ok, asB_bool]
      simp only [if_pos q3]
      simp only [enc_cells ha, enc_cells hb, notNil_ip, chk_true, fldA_ip, drop3, loadS_ip, takeO_one, bindO_ok, asS_str, hl, letV_eq, call_part, hp, oneOf_one, frz_enc]
    · rw [la, lb]; rfl
    · simp only [T.depth]; omega
    · simp only [T.depth]; omega
  have hcond : ∀ {β : Type} (K : Car → Option β), bindO (if (a.depth : Int) = 1 then if (b.depth : Int) = 1 then some ([AV.bool (decide (((a.size + b.size : Nat) : Int) ≤ 128))], S2 a.size a.ends a.depth b.size b.ends b.depth) else some ([AV.bool false], S2 a.size a.ends a.depth b.size b.ends b.depth) else some ([AV.bool false], S2 a.size a.ends a.depth b.size b.ends b.depth)) K = K ([AV.bool false], S2 a.size a.ends a.depth b.size b.ends b.depth) := by
    intro β K
    by_cases k1 : (a.depth : Int) = 1
    · by_cases k2 : (b.depth : Int) = 1
      · have : ¬ ((a.size + b.size : Nat) : Int) ≤ 128 := by omega
        rw [if_pos k1, if_pos k2, decide_eq_false this]; rfl
      · rw [if_pos k1, if_neg k2]; rfl
    · rw [if_neg k1]; rfl
  by_cases c1 : a.depth > b.depth + 1
  · have c1' : (a.depth : Int) > ((b.depth + 1 : Nat) : Int) := by omega
    obtain ⟨l, r, rfl⟩ : ∃ l r, a = .node l r := ⟨_, _, node_of (by omega)⟩
    obtain ⟨hl, hr, wl, wrr, b1, b2⟩ := wa
    have sl := size_pos wl hl
    simp only [T.size] at hn
    obtain ⟨j, hj, J⟩ := ih (r.size + b.size) (by omega) r b wrr wb (Nat.le_refl _) (by omega)
    have jl := J.lo
    have jh := J.hi
    have js := J.size
    have pr := depth_pos hr
    have pj : j.isNil = false := isNil_depth (by omega)
    simp only [T.depth] at c1 c1'
    obtain ⟨t, ht, L, hd⟩ := level_ok hl pj wl J.wf (by omega) (by omega) (by omega)
    have e1 := fun {β : Type} (st : St) (K : Kv β) => call_two st K rfl hj
    have e2 := fun {β : Type} (st : St) (K : Kv β) => call_two st K rfl ht
    have ll := L.lo
    have lh := L.hi
    refine ⟨t, bare_of rfl ((g30_eq _ _).trans ?_), ⟨L.wf, ?_, ?_, ?_⟩⟩
    · simp only [g30, call_of, kn, unA_agg, unc_cons, asI_int, un0_nil, letSt_eq, h0, Vm.h1, st_one, st_two, ld_00, ld_01, ld_02, ld_10, ld_11, ld_12, letV_eq, wr1, wr2, ifB_decide, T.nil_enc, ha, hb, ifB_false, ifB_beq, wr3, asB_bool, hcond]
      simp only [T.depth] at *
      simp only [if_pos c1', enc_cells (t := .node l r) rfl, notNil_ip, chk_true, fldA_ip, drop4, drop5, loadS_ip, takeO_one, bindO_ok, T.left, T.right, e1, e2, apart_kept, apart_kept2, Bool.and_self, oneOf_one, frz_enc]
    · rw [L.text, J.text]; simp [T.text]
    · simp only [T.depth]; omega
    · simp only [T.depth]
      by_cases k : l.depth ≤ j.depth + 1 ∧ j.depth ≤ l.depth + 1
      · have := hd k.1 k.2; omega
      · omega
  have c1' : ¬ (a.depth : Int) > ((b.depth + 1 : Nat) : Int) := by omega
  by_cases c3 : b.depth > a.depth + 1
  · have c3' : (b.depth : Int) > ((a.depth + 1 : Nat) : Int) := by omega
    obtain ⟨l, r, rfl⟩ : ∃ l r, b = .node l r := ⟨_, _, node_of (by omega)⟩
    obtain ⟨hl, hr, wl, wrr, b1, b2⟩ := wb
    have sr := size_pos wrr hr
    simp only [T.size] at hn
    obtain ⟨j, hj, J⟩ := ih (a.size + l.size) (by omega) a l wa wl (Nat.le_refl _) (by omega)
    have jl := J.lo
    have jh := J.hi
    have js := J.size
    have pr := depth_pos hl
    have pj : j.isNil = false := isNil_depth (by omega)
    simp only [T.depth] at c3 c3' c1 c1'
    obtain ⟨t, ht, L, hd⟩ := level_ok pj hr J.wf wrr (by omega) (by omega) (by omega)
    have e1 := fun {β : Type} (st : St) (K : Kv β) => call_two st K rfl hj
    have e2 := fun {β : Type} (st : St) (K : Kv β) => call_two st K rfl ht
    have ll := L.lo
    have lh := L.hi
    refine ⟨t, bare_of rfl ((g30_eq _ _).trans ?_), ⟨L.wf, ?_, ?_, ?_⟩⟩
    · simp only [g30, call_of, kn, unA_agg, unc_cons, asI_int, un0_nil, letSt_eq, h0, Vm.h1, st_one, st_two, ld_00, ld_01, ld_02, ld_10, ld_11, ld_12, letV_eq, wr1, wr2, ifB_decide, T.nil_enc, ha, hb, ifB_false, ifB_beq, wr3, asB_bool, hcond]
      simp only [T.depth] at *
      simp only [if_neg c1', if_pos c3', enc_cells (t := .node l r) rfl, notNil_ip, chk_true, fldA_ip, drop4, drop5, loadS_ip, takeO_one, bindO_ok, T.left, T.right, e1, e2, apart_kept, apart_kept2, Bool.and_self, oneOf_one, frz_enc]
    · rw [L.text, J.text]; simp [T.text]
    · simp only [T.depth]; omega
    · simp only [T.depth]
      by_cases k : j.depth ≤ r.depth + 1 ∧ r.depth ≤ j.depth + 1
      · have := hd k.1 k.2; omega
      · omega
  · have c3' : ¬ (b.depth : Int) > ((a.depth + 1 : Nat) : Int) := by omega
    refine ⟨.node a b, bare_of rfl ((g30_eq _ _).trans ?_), joined_two ha hb wa wb (by omega) (by omega)⟩
    have e1 := fun {β : Type} (st : St) (K : Kv β) => call_two st K rfl (two_ok a b (by omega) (by omega))
    simp only [g30, call_of, kn, unA_agg, unc_cons, asI_int, un0_nil, letSt_eq, h0, Vm.h1, st_one, st_two, ld_00, ld_01, ld_02, ld_10, ld_11, ld_12, letV_eq, wr1, wr2, ifB_decide, T.nil_enc, ha, hb, ifB_false, ifB_beq, wr3, asB_bool, hcond, if_neg c1', if_neg c3', e1, oneOf_one, frz_enc]
end Go.Proofs.Ytdfofconhfhgdaa.Vm
/- Ropes: grown, split, text. -/
set_option maxRecDepth 100000
set_option linter.unusedSimpArgs false
namespace Go.Proofs.Ytdfofconhfhgdaa.Vm
open Go Go.VM Go.Proofs
open T

theorem partT_ok (s : List UInt8) : WF (partT s) ∧ (partT s).text = s ∧ (partT s).depth ≤ 1 := by
  unfold partT
  split
  · rename_i h; subst h; exact ⟨trivial, rfl, by simp [T.depth]⟩
  · rename_i h; exact ⟨h, rfl, Nat.le_refl _⟩
theorem partT_size (s : List UInt8) : (partT s).size = s.length := by rw [← size_text, (partT_ok s).2.1]
theorem half (n : Nat) (h : n ≤ 100000000) : IntKind.wrap .i64 (Int.tdiv (n : Int) 2) = ((n / 2 : Nat) : Int) := by
  rw [show Int.tdiv (n : Int) 2 = ((n / 2 : Nat) : Int) from rfl]
  exact wrapN (by omega)
theorem grown_ok (n : Nat) : ∀ (s : List UInt8), s.length ≤ n → n ≤ 100000000 → ∃ t, (orc vE).bare 27 [.str s] = some t.enc ∧ WF t ∧ t.text = s := by
  induction n using Nat.strongRecOn with
  | _ n ih =>
  intro s hn hs
  by_cases c : s.length ≤ 128
  · have c' : (s.length : Int) ≤ 128 := by omega
    refine ⟨partT s, bare_of rfl ((g27_eq _).trans ?_), (partT_ok s).1, (partT_ok s).2.1⟩
    simp only [g27, asS_str, ifB_decide, if_pos c', call_part, oneOf_one, frz_enc]
  · have c' : ¬ (s.length : Int) ≤ 128 := by omega
    have hk : s.length / 2 ≤ s.length := by omega
    have l1 : (s.take (s.length / 2)).length = s.length / 2 := by rw [List.length_take]; omega
    have l2 : (s.drop (s.length / 2)).length = s.length - s.length / 2 := List.length_drop
    obtain ⟨a, ha, wa, ta⟩ := ih (s.length / 2) (by omega) (s.take (s.length / 2)) (by omega) (by omega)
    obtain ⟨b, hb, wb, tb⟩ := ih (s.length - s.length / 2) (by omega) (s.drop (s.length / 2)) (by omega) (by omega)
    have sa : a.size = s.length / 2 := by rw [← size_text, ta, l1]
    have sb : b.size = s.length - s.length / 2 := by rw [← size_text, tb, l2]
    obtain ⟨t, ht, J⟩ := join_ok n a b wa wb (by omega) hs
    have e1 : ∀ {β : Type} (st : St) (K : Kv β), callS (orc vE) 27 [.str (s.take (s.length / 2))] st K = K a.enc st q0 := fun st K => callS_bare st K rfl rfl rfl ha
    have e2 : ∀ {β : Type} (st : St) (K : Kv β), callS (orc vE) 27 [.str (s.drop (s.length / 2))] st K = K b.enc st q0 := fun st K => callS_bare st K rfl rfl rfl hb
    have e3 := fun {β : Type} (st : St) (K : Kv β) => call_two st K rfl ht
    refine ⟨t, bare_of rfl ((g27_eq _).trans ?_), J.wf, by rw [J.text, ta, tb, List.take_append_drop]⟩
    simp only [g27, asS_str, ifB_decide, if_neg c', half _ (show s.length ≤ 100000000 by omega), letV_eq, uptoS_nat hk, List.drop_zero, List.take_length, e1, e2, apart_kept, apart_kept2, Bool.and_self, chk_true, e3, oneOf_one, frz_enc]
theorem split_ok : ∀ (t : T) (n : Nat), WF t → n ≤ t.size → t.size ≤ 100000000 → ∃ a b, (orc vE).bare 29 [t.enc, .int .i64 (n : Int)] = some (.tup [a.enc, b.enc]) ∧ WF a ∧ WF b ∧ a.text = t.text.take n ∧ b.text = t.text.drop n
  | .nil, n, _, _, _ => ⟨.nil, .nil, bare_of rfl ((g29_eq _ _).trans rfl), trivial, trivial, by simp [T.text], by simp [T.text]⟩
  | .leaf s, n, w, hn, _ => by
    have q : ((T.leaf s).depth : Int) = 1 := rfl
    have hn' : n ≤ s.length := hn
    refine ⟨partT (s.take n), partT (s.drop n), bare_of rfl ((g29_eq _ _).trans ?_), (partT_ok _).1, (partT_ok _).1, (partT_ok _).2.1, (partT_ok _).2.1⟩
    simp only [g29, asI_int, T.nil_enc, T.isNil, ifB_false]
    simp only [enc_cells (t := .leaf s) rfl, notNil_ip, chk_true, fldA_ip, List.drop_zero, drop2, drop3, drop4, drop5, loadS_ip, takeO_one, bindO_ok, T.left, T.right, call_of, kn, unA_agg, unc_cons, asI_int, un0_nil, apart_kept, apart_kept2, Bool.and_self, ifB_decide, oneOf_one, frz_enc, ifB_beq, if_pos q, asS_str, T.own, uptoS_nat hn', letV_eq, call_part, List.take_length, frz_two]
  | .node l r, n, w, hn, hs => by
    obtain ⟨hl, hr, wl, wrr, b1, b2⟩ := w
    have pl := depth_pos hl
    have q : ¬ ((T.node l r).depth : Int) = 1 := by simp only [T.depth]; omega
    simp only [T.size] at hn hs
    by_cases c : n > l.size
    · have c' : (n : Int) > (l.size : Int) := by omega
      obtain ⟨a, b, hab, wa, wb, ta, tb⟩ := split_ok r (n - l.size) wrr (by omega) (by omega)
      have wr : IntKind.wrap .i64 ((n : Int) - (l.size : Int)) = ((n - l.size : Nat) : Int) := by rw [← wrapN (n := n - l.size) (by omega)]; congr 1; omega
      have sa : a.size = n - l.size := by rw [← size_text, ta, List.length_take, size_text]; omega
      obtain ⟨t, ht, J⟩ := join_ok 100000000 l a wl wa (by omega) (by omega)
      have e1 : ∀ {β : Type} (st : St) (K : Kv β), callS (orc vE) 29 [r.enc, .int .i64 ((n - l.size : Nat) : Int)] st K = K (.tup [a.enc, b.enc]) st q0 := fun st K => callS_bare st K rfl (by simp [strip_enc]; rfl) (by simp only [bares_cons, bare_enc]; rfl) hab
      have e2 := fun {β : Type} (st : St) (K : Kv β) => call_two st K rfl ht
      refine ⟨t, b, bare_of rfl ((g29_eq _ _).trans ?_), J.wf, wb, ?_, ?_⟩
      · simp only [g29, asI_int, T.nil_enc, T.isNil, ifB_false]
        simp only [enc_cells (t := .node l r) rfl, notNil_ip, chk_true, fldA_ip, List.drop_zero, drop2, drop3, drop4, drop5, loadS_ip, takeO_one, bindO_ok, T.left, T.right, call_of, kn, unA_agg, unc_cons, asI_int, un0_nil, apart_kept, apart_kept2, Bool.and_self, ifB_decide, oneOf_one, frz_enc, ifB_beq, if_neg q, if_pos c', letV_eq, wr, e1, e2, unT_tup, nthS_zero, nthS_one, frz_two]
      · rw [J.text, ta]
        simp only [T.text, List.take_append, size_text]
        rw [show l.text.take n = l.text from List.take_of_length_le (by rw [size_text]; omega)]
      · rw [tb]
        simp only [T.text, List.drop_append, size_text]
        rw [show l.text.drop n = [] from List.drop_of_length_le (by rw [size_text]; omega)]; rfl
    · have c' : ¬ (n : Int) > (l.size : Int) := by omega
      obtain ⟨a, b, hab, wa, wb, ta, tb⟩ := split_ok l n wl (by omega) (by omega)
      have sb : b.size = l.size - n := by rw [← size_text, tb, List.length_drop, size_text]
      obtain ⟨t, ht, J⟩ := join_ok 100000000 b r wb wrr (by omega) (by omega)
      have e1 : ∀ {β : Type} (st : St) (K : Kv β), callS (orc vE) 29 [l.enc, .int .i64 (n : Int)] st K = K (.tup [a.enc, b.enc]) st q0 := fun st K => callS_bare st K rfl (by simp [strip_enc]; rfl) (by simp only [bares_cons, bare_enc]; rfl) hab
      have e2 := fun {β : Type} (st : St) (K : Kv β) => call_two st K rfl ht
      refine ⟨a, t, bare_of rfl ((g29_eq _ _).trans ?_), wa, J.wf, ?_, ?_⟩
      · simp only [g29, asI_int, T.nil_enc, T.isNil, ifB_false]
        simp only [enc_cells (t := .node l r) rfl, notNil_ip, chk_true, fldA_ip, List.drop_zero, drop2, drop3, drop4, drop5, loadS_ip, takeO_one, bindO_ok, T.left, T.right, call_of, kn, unA_agg, unc_cons, asI_int, un0_nil, apart_kept, apart_kept2, Bool.and_self, ifB_decide, oneOf_one, frz_enc, ifB_beq, if_neg q, if_neg c', letV_eq, e1, e2, unT_tup, nthS_zero, nthS_one, frz_two]
      · rw [ta]
        simp only [T.text, List.take_append, size_text]
        rw [show n - l.size = 0 by omega]; simp
      · rw [J.text, tb]
        simp only [T.text, List.drop_append, size_text]
        rw [show n - l.size = 0 by omega]; simp
/-- write. -/
theorem write_ok : ∀ (t : T) (st : St) (p : Nat) (out : List UInt8), IsB st 75 5 p [] [] out → out.length + t.size ≤ 1000000000 →
    ∃ st', (orc vE).wide 40 [t.enc, .mp p 0] st = some (.tup [], st') ∧ IsB st' 75 5 p [] [] (out ++ t.text)
  | .nil, st, p, out, h, _ => ⟨st, wide_of ((w40_eq _ _ _).trans rfl), by simpa [T.text] using h⟩
  | t, st, p, out, h, hl => by
    have hro : st.ro ≤ st.h := by
      obtain ⟨a0, a1, g, _, _, hr⟩ := h
      exact Nat.le_trans hr (Nat.le_of_lt (St.get_ok.1 g).1)
    have wr : ∀ (s : List UInt8) (st : St) (out : List UInt8), IsB st 75 5 p [] [] out → out.length + s.length ≤ 1000000000 → ∃ st', IsB st' 75 5 p [] [] (out ++ s) ∧ ∃ v fx, ∀ {β : Type} (K : Kv β), callS (orc vE) 45 [.mp p 0, .str s] st K = K v st' fx := by
      intro s st out h hl
      have hro : st.ro ≤ st.h := by
        obtain ⟨a0, a1, g, _, _, hr⟩ := h
        exact Nat.le_trans hr (Nat.le_of_lt (St.get_ok.1 g).1)
      obtain ⟨st', e, hB, _⟩ := bWrite_ok (O := orc vE) (L := [(74, 2, 0), (75, 2, 0)]) (s := s) h rfl (by omega) hro
      have e : w45 (.mp p 0) (.str s) st = _ := e
      exact ⟨st', hB, _, _, fun K => callS_wide K rfl rfl (wide_of ((w45_eq _ _ _).trans e))⟩
    match t, hl with
    | .nil, _ => exact ⟨st, wide_of ((w40_eq _ _ _).trans rfl), by simpa [T.text] using h⟩
    | .leaf s, hl =>
      obtain ⟨st1, h1, v1, x1, e1⟩ := wr s st out h hl
      have en : ∀ {β : Type} (K : Kv β), callS (orc vE) 40 [.nilp, .mp p 0] st1 K = K (.tup []) st1 ⟨[], .all st1 st1⟩ := fun K => callS_wide K rfl rfl (wide_of ((w40_eq _ _ _).trans rfl))
      refine ⟨st1, wide_of ((w40_eq _ _ _).trans ?_), h1⟩
      simp only [w40, T.nil_enc, T.isNil, ifB_false]
      simp only [enc_cells (t := .leaf s) rfl, notNil_ip, chk_true, fldA_ip, List.drop_zero, drop2, drop3, drop4, drop5, loadS_ip, takeO_one, bindO_ok, T.left, T.right, call_of, kn, unA_agg, unc_cons, asI_int, un0_nil, apart_kept, apart_kept2, Bool.and_self, ifB_decide, oneOf_one, frz_enc, asS_str, T.own, e1, T.enc, en]
    | .node l r, hl =>
      simp only [T.size] at hl
      obtain ⟨st1, h1, v1, x1, e1⟩ := wr [] st out h (by simp; omega)
      rw [List.append_nil] at h1
      obtain ⟨st2, e2, h2⟩ := write_ok l st1 p out h1 (by omega)
      obtain ⟨st3, e3, h3⟩ := write_ok r st2 p (out ++ l.text) h2 (by rw [List.length_append, size_text]; omega)
      have c2 : ∀ {β : Type} (K : Kv β), callS (orc vE) 40 [l.enc, .mp p 0] st1 K = K (.tup []) st2 ⟨[], .all st1 st2⟩ := fun K => callS_wide K rfl (by simp only [List.map_cons, List.map_nil, strip_enc, bares_cons, bare_enc]; rfl) e2
      have c3 : ∀ {β : Type} (K : Kv β), callS (orc vE) 40 [r.enc, .mp p 0] st2 K = K (.tup []) st3 ⟨[], .all st2 st3⟩ := fun K => callS_wide K rfl (by simp only [List.map_cons, List.map_nil, strip_enc, bares_cons, bare_enc]; rfl) e3
      refine ⟨st3, wide_of ((w40_eq _ _ _).trans ?_), by simpa [T.text] using h3⟩
      simp only [w40, T.nil_enc, T.isNil, ifB_false]
      simp only [enc_cells (t := .node l r) rfl, notNil_ip, chk_true, fldA_ip, List.drop_zero, drop2, drop3, drop4, drop5, loadS_ip, takeO_one, bindO_ok, T.left, T.right, call_of, kn, unA_agg, unc_cons, asI_int, un0_nil, apart_kept, apart_kept2, Bool.and_self, ifB_decide, oneOf_one, frz_enc, asS_str, T.own, e1, c2, c3]
theorem text_ok (t : T) (hs : t.size ≤ 100000000) : (orc vE).bare 31 [t.enc] = some (.str t.text) := by
  refine bare_of rfl ((g31_eq _).trans ?_)
  have h0 : IsB (St.mk 1 0 (Tr.node (some (VM.Obj.cells 75 [AV.nilp, AV.nils])) Tr.leaf Tr.leaf)) 75 5 0 [] [] [] := ⟨.nilp, .nils, rfl, .inl rfl, .inl ⟨rfl, rfl⟩, Nat.le_refl _⟩
  obtain ⟨st', e, hB⟩ := write_ok t _ 0 [] h0 (by simp; omega)
  rw [List.nil_append] at hB
  have c1 : ∀ {β : Type} (K : Kv β), callS (orc vE) 40 [t.enc, .mp 0 0] (St.mk 1 0 (Tr.node (some (VM.Obj.cells 75 [AV.nilp, AV.nils])) Tr.leaf Tr.leaf)) K = K (.tup []) st' ⟨[], .all _ st'⟩ := fun K => callS_wide K rfl (by simp only [List.map_cons, List.map_nil, strip_enc, bares_cons, bare_enc]; rfl) e
  obtain ⟨fx, e2⟩ := bstring_ok (O := orc vE) hB (by rw [size_text]; omega) (fun v3 _ _ => asS v3 fun l6 => some (AV.str l6))
  rw [g31, c1]
  exact e2
end Go.Proofs.Ytdfofconhfhgdaa.Vm
/- Ropes: what is known, check, Slice, Replace, Of. -/
set_option maxRecDepth 100000
set_option linter.unusedSimpArgs false
namespace Go.Proofs.Ytdfofconhfhgdaa.Vm
open Go Go.VM Go.Proofs
open T

/-- A rope. -/
def rp (t : T) : AV := .ip [t.enc]
def spV (x y : Int) : AV := .agg [.int .i64 x, .int .i64 y]
theorem known_ok (t : T) : (orc vE).bare 32 [rp t] = some (kn t) := by
  refine bare_of rfl ((g32_eq _).trans ?_)
  show (chk (notNil (rp t)) _) = _
  simp only [rp, notNil_ip, chk_true, fldA_ip, List.drop_zero, loadS_ip, takeO_one, bindO_ok, call_of, kn, unA_agg, unc_cons, asI_int, un0_nil]
  rfl
theorem known_nil : (orc vE).bare 32 [.nilp] = some (kn .nil) := bare_of rfl ((g32_eq _).trans rfl)
theorem call_rp {β : Type} {f : FuncId} {t : T} {r : AV} (st : St) (K : Kv β) (hf : vE.full f = false) (h : (orc vE).bare f [rp t] = some r) : callS (orc vE) f [rp t] st K = K r st q0 := callS_bare st K hf rfl rfl h
theorem call_nil {β : Type} {f : FuncId} {r : AV} (st : St) (K : Kv β) (hf : vE.full f = false) (h : (orc vE).bare f [.nilp] = some r) : callS (orc vE) f [.nilp] st K = K r st q0 := callS_bare st K hf rfl rfl h
theorem call_known {β : Type} (t : T) (st : St) (K : Kv β) : callS (orc vE) 32 [rp t] st K = K (kn t) st q0 := call_rp st K rfl (known_ok t)
theorem call_known_nil {β : Type} (st : St) (K : Kv β) : callS (orc vE) 32 [.nilp] st K = K (kn .nil) st q0 := call_nil st K rfl known_nil
theorem len_ok (t : T) : (orc vE).bare 19 [rp t] = some (.int .i64 (t.size : Int)) := by
  refine bare_of rfl ((g19_eq _).trans ?_)
  simp only [g19, call_known, kn, unA_agg, unc_cons, asI_int, un0_nil]
theorem ends_ok (t : T) : (orc vE).bare 15 [rp t] = some (.int .i64 (t.ends : Int)) := by
  refine bare_of rfl ((g15_eq _).trans ?_)
  simp only [g15, call_known, kn, unA_agg, unc_cons, asI_int, un0_nil]
theorem depth_ok (t : T) : (orc vE).bare 20 [rp t] = some (.int .i64 (t.depth : Int)) := by
  refine bare_of rfl ((g20_eq _).trans ?_)
  simp only [g20, call_known, kn, unA_agg, unc_cons, asI_int, un0_nil]
theorem len_nil : (orc vE).bare 19 [.nilp] = some (.int .i64 0) := by
  refine bare_of rfl ((g19_eq _).trans ?_)
  simp only [g19, call_known_nil, kn, unA_agg, unc_cons, asI_int, un0_nil]; rfl
theorem ends_nil : (orc vE).bare 15 [.nilp] = some (.int .i64 0) := by
  refine bare_of rfl ((g15_eq _).trans ?_)
  simp only [g15, call_known_nil, kn, unA_agg, unc_cons, asI_int, un0_nil]; rfl
theorem depth_nil : (orc vE).bare 20 [.nilp] = some (.int .i64 0) := by
  refine bare_of rfl ((g20_eq _).trans ?_)
  simp only [g20, call_known_nil, kn, unA_agg, unc_cons, asI_int, un0_nil]; rfl
theorem call_len {β : Type} (t : T) (st : St) (K : Kv β) : callS (orc vE) 19 [rp t] st K = K (.int .i64 (t.size : Int)) st q0 := call_rp st K rfl (len_ok t)
theorem call_ends {β : Type} (t : T) (st : St) (K : Kv β) : callS (orc vE) 15 [rp t] st K = K (.int .i64 (t.ends : Int)) st q0 := call_rp st K rfl (ends_ok t)
theorem call_depth {β : Type} (t : T) (st : St) (K : Kv β) : callS (orc vE) 20 [rp t] st K = K (.int .i64 (t.depth : Int)) st q0 := call_rp st K rfl (depth_ok t)
theorem call_text {β : Type} {t : T} (hs : t.size ≤ 100000000) (st : St) (K : Kv β) : callS (orc vE) 31 [t.enc] st K = K (.str t.text) st q0 := call_bare1 st K rfl (text_ok t hs)
theorem nil_rp {β : Type} (t : T) (k : TypeId) (K : Bool → Option β) : nilS (.ptr k) (rp t) .nilp K = K false := rfl
theorem nil_nil {β : Type} (k : TypeId) (K : Bool → Option β) : nilS (.ptr k) .nilp .nilp K = K true := rfl
theorem string_ok {t : T} (hs : t.size ≤ 100000000) : (orc vE).bare 11 [rp t] = some (.str t.text) := by
  refine bare_of rfl ((g11_eq _).trans ?_)
  simp only [g11, nil_rp, ifB_false]
  simp only [rp, notNil_ip, chk_true, fldA_ip, List.drop_zero, loadS_ip, takeO_one, bindO_ok, call_text hs, asS_str]
theorem string_nil : (orc vE).bare 11 [.nilp] = some (.str []) := bare_of rfl ((g11_eq _).trans rfl)
theorem call_string {β : Type} {t : T} (hs : t.size ≤ 100000000) (st : St) (K : Kv β) : callS (orc vE) 11 [rp t] st K = K (.str t.text) st q0 := call_rp st K rfl (string_ok hs)
/-- Is it a span? -/
def isS (n : Nat) (x y : Int) : Bool := decide (0 ≤ x ∧ x ≤ y ∧ y ≤ (n : Int))
theorem check_ok (t : T) (x y : Int) : (orc vE).bare 28 [rp t, spV x y] = some (.int .i64 (if isS t.size x y then 0 else 1)) := by
  refine bare_of rfl ((g28_eq _ _).trans ?_)
  simp only [g28, spV, unA_agg, unc_cons, asI_int, un0_nil, nil_rp, ifB_false, ifB_decide, call_len, apart_kept, apart_kept2, Bool.and_self, chk_true]
  by_cases h1 : x < 0
  · rw [if_pos h1]; simp [isS, show ¬ 0 ≤ x by omega]
  · rw [if_neg h1]
    by_cases h2 : y < x
    · rw [if_pos h2]; simp [isS, show ¬ x ≤ y by omega]
    · rw [if_neg h2]
      by_cases h3 : y > (t.size : Int)
      · simp [isS, h3, show ¬ y ≤ (t.size : Int) by omega]
      · simp [isS, h3, show y ≤ (t.size : Int) by omega, show 0 ≤ x by omega, show x ≤ y by omega]
theorem check_nil (x y : Int) : (orc vE).bare 28 [.nilp, spV x y] = some (.int .i64 2) := by
  refine bare_of rfl ((g28_eq _ _).trans ?_)
  simp only [g28, spV, unA_agg, unc_cons, asI_int, un0_nil, nil_nil, ifB_true]
theorem call_check {β : Type} (t : T) (x y : Int) (st : St) (K : Kv β) : callS (orc vE) 28 [rp t, .agg [.int .i64 x, .int .i64 y]] st K = K (.int .i64 (if isS t.size x y then 0 else 1)) st q0 := callS_bare st K rfl rfl rfl (check_ok t x y)
theorem call_check_nil {β : Type} (x y : Int) (st : St) (K : Kv β) : callS (orc vE) 28 [.nilp, .agg [.int .i64 x, .int .i64 y]] st K = K (.int .i64 2) st q0 := callS_bare st K rfl rfl rfl (check_nil x y)
theorem call_split {β : Type} {t a b : T} {n : Nat} (h : (orc vE).bare 29 [t.enc, .int .i64 (n : Int)] = some (.tup [a.enc, b.enc])) (st : St) (K : Kv β) : callS (orc vE) 29 [t.enc, .int .i64 (n : Int)] st K = K (.tup [a.enc, b.enc]) st q0 :=
  callS_bare st K rfl (by simp [strip_enc]; rfl) (by simp only [bares_cons, bare_enc]; rfl) h
theorem isS_nat {n : Nat} {x y : Int} (h : isS n x y = true) : ∃ i j : Nat, x = i ∧ y = j ∧ i ≤ j ∧ j ≤ n := by
  simp only [isS, decide_eq_true_eq] at h
  exact ⟨x.toNat, y.toNat, by omega, by omega, by omega, by omega⟩
theorem cut_text {s : List UInt8} {i j : Nat} : (s.drop i).take (j - i) = (s.take j).drop i := (List.drop_take).symm
theorem slice_ok {t : T} (w : WF t) (hs : t.size ≤ 1000000) (x y : Int) : (orc vE).bare 12 [rp t, spV x y] = some (if isS t.size x y then .tup [.str ((t.text.take y.toNat).drop x.toNat), .int .i64 0] else .tup [.str [], .int .i64 1]) := by
  refine bare_of rfl ((g12_eq _ _).trans ?_)
  cases h : isS t.size x y with
  | false => simp only [g12, spV, unA_agg, unc_cons, asI_int, un0_nil, call_check, h]; rfl
  | true =>
    obtain ⟨i, j, rfl, rfl, h1, h2⟩ := isS_nat h
    obtain ⟨a, b, e1, wa, wb, ta, tb⟩ := split_ok t i w (by omega) (by omega)
    have sb : b.size = t.size - i := by rw [← size_text, tb, List.length_drop, size_text]
    obtain ⟨c, d, e2, wc, wd, tc, td⟩ := split_ok b (j - i) wb (by omega) (by omega)
    have sc : c.size ≤ 1000000 := by rw [← size_text, tc, List.length_take, size_text]; omega
    have wr : IntKind.wrap .i64 ((j : Int) - (i : Int)) = ((j - i : Nat) : Int) := by rw [← wrapN (n := j - i) (by omega)]; congr 1; omega
    simp only [g12, spV, unA_agg, unc_cons, asI_int, un0_nil, call_check, h]
    simp only [rp, ifB_bne, if_true, notNil_ip, chk_true, fldA_ip, List.drop_zero, loadS_ip, takeO_one, bindO_ok, call_split e1, unT_tup, nthS_zero, nthS_one, letV_eq, wr, call_split e2, call_text (show c.size ≤ 100000000 by omega), asS_str]
    rw [tc, tb, cut_text]; rfl
theorem slice_nil (x y : Int) : (orc vE).bare 12 [.nilp, spV x y] = some (.tup [.str [], .int .i64 2]) := by
  refine bare_of rfl ((g12_eq _ _).trans ?_)
  simp only [g12, spV, unA_agg, unc_cons, asI_int, un0_nil, call_check_nil]; rfl
/-- A text with another one in the place of a span. -/
def putT (s : List UInt8) (x y : Int) (r : List UInt8) : List UInt8 := s.take x.toNat ++ r ++ s.drop y.toNat
/-- Is there room? -/
def roomT (n : Nat) (x y : Int) (k : Nat) : Bool := decide ((n : Int) - (y - x) + k ≤ 65536)
theorem replace_no {t : T} {x y : Int} (s : List UInt8) (h : isS t.size x y = false) : (orc vE).bare 9 [rp t, spV x y, .str s] = some (.tup [.nilp, .int .i64 1]) := by
  refine bare_of rfl ((g9_eq _ _ _).trans ?_)
  simp only [g9, spV, unA_agg, unc_cons, asI_int, un0_nil, asS_str, call_check, h]; rfl
theorem replace_nil (x y : Int) (s : List UInt8) : (orc vE).bare 9 [.nilp, spV x y, .str s] = some (.tup [.nilp, .int .i64 2]) := by
  refine bare_of rfl ((g9_eq _ _ _).trans ?_)
  simp only [g9, spV, unA_agg, unc_cons, asI_int, un0_nil, asS_str, call_check_nil]; rfl
section
variable {t : T} {x y : Int} {s : List UInt8}
theorem rwraps (hs : t.size ≤ 1000000) (h : isS t.size x y = true) : IntKind.wrap .i64 (y - x) = y - x ∧ IntKind.wrap .i64 ((t.size : Int) - (y - x)) = (t.size : Int) - (y - x) ∧ IntKind.wrap .i64 (65536 - ((t.size : Int) - (y - x))) = 65536 - ((t.size : Int) - (y - x)) := by
  simp only [isS, decide_eq_true_eq] at h
  exact ⟨wrap_i64 (by omega) (by omega), wrap_i64 (by omega) (by omega), wrap_i64 (by omega) (by omega)⟩
theorem replace_large (hs : t.size ≤ 1000000) (h : isS t.size x y = true) (hr : roomT t.size x y s.length = false) : (orc vE).bare 9 [rp t, spV x y, .str s] = some (.tup [.nilp, .int .i64 40]) := by
  refine bare_of rfl ((g9_eq _ _ _).trans ?_)
  obtain ⟨w1, w2, w3⟩ := rwraps hs h
  have c : (s.length : Int) > 65536 - ((t.size : Int) - (y - x)) := by
    simp only [roomT, decide_eq_false_iff_not] at hr; omega
  simp only [g9, spV, unA_agg, unc_cons, asI_int, un0_nil, asS_str, call_check, h, if_true, ifB_bne, call_len, apart_kept, apart_kept2, Bool.and_self, chk_true, letV_eq, w1, w2, w3, ifB_decide, if_pos c]
theorem replace_yes (w : WF t) (hs : t.size ≤ 1000000) (h : isS t.size x y = true) (hr : roomT t.size x y s.length = true) :
    ∃ u, (orc vE).bare 9 [rp t, spV x y, .str s] = some (.tup [rp u, .int .i64 0]) ∧ WF u ∧ u.text = putT t.text x y s ∧ u.size ≤ 65536 := by
  obtain ⟨w1, w2, w3⟩ := rwraps hs h
  have c : ¬ (s.length : Int) > 65536 - ((t.size : Int) - (y - x)) := by
    simp only [roomT, decide_eq_true_eq] at hr; omega
  obtain ⟨i, j, rfl, rfl, h1, h2⟩ := isS_nat h
  obtain ⟨a, b, e1, wa, wb, ta, tb⟩ := split_ok t i w (by omega) (by omega)
  have sa : a.size = i := by rw [← size_text, ta, List.length_take, size_text]; omega
  have sb : b.size = t.size - i := by rw [← size_text, tb, List.length_drop, size_text]
  obtain ⟨p, d, e2, wp, wd, tp, td⟩ := split_ok b (j - i) wb (by omega) (by omega)
  have sd : d.size = t.size - j := by rw [← size_text, td, List.length_drop, size_text]; omega
  obtain ⟨g, e3, wg, tg⟩ := grown_ok 1000000 s (by simp only [roomT, decide_eq_true_eq] at hr; omega) (by omega)
  have sg : g.size = s.length := by rw [← size_text, tg]
  simp only [roomT, decide_eq_true_eq] at hr
  obtain ⟨m, e4, J⟩ := join_ok 100000000 a g wa wg (by omega) (by omega)
  have sm := J.size
  obtain ⟨u, e5, J2⟩ := join_ok 100000000 m d J.wf wd (by omega) (by omega)
  have su := J2.size
  have e3' : ∀ {β : Type} (st : St) (K : Kv β), callS (orc vE) 27 [.str s] st K = K g.enc st q0 := fun st K => callS_bare st K rfl rfl rfl e3
  have e4' := fun {β : Type} (st : St) (K : Kv β) => call_two st K rfl e4
  have e5' := fun {β : Type} (st : St) (K : Kv β) => call_two st K rfl e5
  have wr : ((j : Int) - (i : Int)) = ((j - i : Nat) : Int) := by omega
  refine ⟨u, bare_of rfl ((g9_eq _ _ _).trans ?_), J2.wf, ?_, by omega⟩
  · simp only [g9, spV, unA_agg, unc_cons, asI_int, un0_nil, asS_str, call_check, h, if_true, ifB_bne, call_len, apart_kept, apart_kept2, Bool.and_self, chk_true, letV_eq, w1, w2, w3, ifB_decide, if_neg c]
    simp only [rp, notNil_ip, chk_true, fldA_ip, List.drop_zero, loadS_ip, takeO_one, bindO_ok, call_split e1, unT_tup, nthS_zero, nthS_one, letV_eq, wr, call_split e2, e3', e4', e5', asOne_enc, fit1_enc]
  · rw [J2.text, J.text, ta, tg, td, tb, putT, List.drop_drop]
    simp only [Int.toNat_natCast]
    rw [show i + (j - i) = j by omega]
end
/-- Of. -/
theorem of_large {s : List UInt8} (h : 65536 < s.length) : (orc vE).bare 8 [.str s] = some (.tup [.nilp, .int .i64 40]) := by
  refine bare_of rfl ((g8_eq _).trans ?_)
  have c : (s.length : Int) > 65536 := by omega
  simp only [g8, asS_str, ifB_decide, if_pos c]
theorem rof_ok {s : List UInt8} (h : s.length ≤ 65536) : ∃ t, (orc vE).bare 8 [.str s] = some (.tup [rp t, .int .i64 0]) ∧ WF t ∧ t.text = s := by
  have c : ¬ (s.length : Int) > 65536 := by omega
  obtain ⟨t, e, w, tt⟩ := grown_ok 1000000 s (by omega) (by omega)
  have e' : ∀ {β : Type} (st : St) (K : Kv β), callS (orc vE) 27 [.str s] st K = K t.enc st q0 := fun st K => callS_bare st K rfl rfl rfl e
  refine ⟨t, bare_of rfl ((g8_eq _).trans ?_), w, tt⟩
  simp only [g8, asS_str, ifB_decide, if_neg c, e', asOne_enc, fit1_enc, rp]
end Go.Proofs.Ytdfofconhfhgdaa.Vm
/- Ropes: Line, Ahead. -/
set_option maxRecDepth 100000
set_option linter.unusedSimpArgs false
namespace Go.Proofs.Ytdfofconhfhgdaa.Vm
open Go Go.VM Go.Proofs
open T

/-- Behind the n-th end of a text (n > 0). -/
def lineP : List UInt8 → Nat → Option Nat
  | [], _ => none
  | b :: l, n => if b = 10 then (if n = 1 then some 1 else (lineP l (n - 1)).map (· + 1)) else (lineP l n).map (· + 1)
theorem lineP_app : ∀ (a b : List UInt8) (n : Nat), 1 ≤ n → lineP (a ++ b) n = if n ≤ a.count 10 then lineP a n else (lineP b (n - a.count 10)).map (· + a.length)
  | [], b, n, h => by
    have : ¬ n ≤ 0 := by omega
    simp [this]
  | c :: l, b, n, h => by
    simp only [List.cons_append, lineP, List.count_cons, List.length_cons]
    by_cases hc : c = 10
    · subst hc
      simp only [if_true, beq_self_eq_true]
      by_cases h1 : n = 1
      · subst h1; simp
      · have ih := lineP_app l b (n - 1) (by omega)
        simp only [if_neg h1, ih]
        by_cases h2 : n - 1 ≤ l.count 10
        · rw [if_pos h2, if_pos (by omega)]
        · rw [if_neg h2, if_neg (by omega), Option.map_map]
          rw [show n - 1 - l.count 10 = n - (l.count 10 + 1) by omega]
          congr 1
    · have ih := lineP_app l b n h
      simp only [if_neg hc, beq_false_of_ne hc, Bool.false_eq_true, if_false, Nat.add_zero, ih]
      by_cases h2 : n ≤ l.count 10
      · rw [if_pos h2, if_pos h2]
      · rw [if_neg h2, if_neg h2, Option.map_map]
        congr 1
theorem lineP_none : ∀ (a : List UInt8) (n : Nat), a.count 10 < n → lineP a n = none
  | [], _, _ => rfl
  | b :: l, n, h => by
    simp only [List.count_cons] at h
    simp only [lineP]
    by_cases hb : b = 10
    · subst hb
      simp only [beq_self_eq_true, if_true] at h
      rw [if_pos rfl, if_neg (by omega), lineP_none l (n - 1) (by omega)]; rfl
    · rw [if_neg hb, lineP_none l n (by omega)]; rfl
theorem lineP_some : ∀ (a : List UInt8) (n : Nat), 1 ≤ n → n ≤ a.count 10 → ∃ p, lineP a n = some p ∧ 1 ≤ p ∧ p ≤ a.length ∧ (a.take p).count 10 = n ∧ a[p - 1]? = some 10
  | [], n, h1, h2 => by simp at h2; omega
  | b :: l, n, h1, h2 => by
    simp only [List.count_cons] at h2
    simp only [lineP]
    by_cases hb : b = 10
    · subst hb
      simp only [beq_self_eq_true, if_true] at h2
      rw [if_pos rfl]
      by_cases hn : n = 1
      · subst hn
        exact ⟨1, by rw [if_pos rfl], Nat.le_refl _, by simp, by simp, by simp⟩
      · obtain ⟨p, e, p1, p2, p3, p4⟩ := lineP_some l (n - 1) (by omega) (by omega)
        refine ⟨p + 1, by rw [if_neg hn, e]; rfl, by omega, by simp; omega, by simp [p3]; omega, ?_⟩
        rw [show p + 1 - 1 = (p - 1) + 1 by omega]; simpa using p4
    · simp only [beq_false_of_ne hb, Bool.false_eq_true, if_false, Nat.add_zero] at h2
      obtain ⟨p, e, p1, p2, p3, p4⟩ := lineP_some l n h1 h2
      refine ⟨p + 1, by rw [if_neg hb, e]; rfl, by omega, by simp; omega, ?_, ?_⟩
      · simp [p3, List.count_cons, hb]
      · rw [show p + 1 - 1 = (p - 1) + 1 by omega]; simpa using p4
theorem call_of1 (t : T) (st : St) {β : Type} (K : Kv β) : callS (orc vE) 33 [t.enc] st K = K (kn t) st q0 := call_of t st K
/-- A local variable of three numbers. -/
theorem var3 {st : St} (h : st.ro ≤ st.h) (a b c : Int) : ∃ st', st'.ro ≤ st'.h ∧ ∃ fx, (∀ {β : Type} (K : Kv β), storeS (orc vE) 3 (.mp st.h 0) (.agg [.int .i64 a, .int .i64 b, .int .i64 c]) [.int .i64 a, .int .i64 b, .int .i64 c] (st.add O3) K = K VM.undef st' fx) ∧
    (∀ {β : Type} (K : AV → List Nat → Option β), loadS 1 false (.mp st.h 0) st' K = K (.int .i64 a) [st.h]) ∧ (∀ {β : Type} (K : AV → List Nat → Option β), loadS 1 false (.mp st.h 1) st' K = K (.int .i64 b) [st.h]) := by
  obtain ⟨st', g, k, hh, fx, e⟩ := local_var (O := orc vE) (st := st) (t := 64) (z := 3) (old := [.int .i64 0, .int .i64 0, .int .i64 0]) (cs := [.int .i64 a, .int .i64 b, .int .i64 c]) (.agg [.int .i64 a, .int .i64 b, .int .i64 c]) rfl rfl h
  refine ⟨st', by rw [k.ro, hh]; omega, fx, fun K => e K, fun K => ?_, fun K => ?_⟩
  · rw [loadS_mp g]; rfl
  · rw [loadS_mp g]; rfl
theorem line_down : ∀ (t : T) (off n : Nat) (st : St), WF t → 1 ≤ n → n ≤ t.ends → off + t.size ≤ 1000000 → st.ro ≤ st.h →
    ∃ (s : List UInt8) (off' n' : Nat) (st' : St), loopO g16_L1 ([.int .i64 (off : Int), .int .i64 (n : Int), t.enc], st) = some (0, [.int .i64 (off' : Int), .int .i64 (n' : Int), (T.leaf s).enc], st') ∧
      (lineP t.text n).map (· + off) = (lineP s n').map (· + off') ∧ 1 ≤ n' ∧ n' ≤ s.count 10 ∧ off' + s.length ≤ off + t.size
  | .nil, _, n, _, _, h1, h2, _, _ => by simp [T.ends] at h2; omega
  | .leaf s, off, n, st, _, h1, h2, _, _ => by
    refine ⟨s, off, n, st, ?_, rfl, h1, h2, Nat.le_refl _⟩
    refine loopO_inr ?_
    have q : ¬ ((T.leaf s).depth : Int) > 1 := by simp [T.depth]
    simp only [g16_L1, unc_cons, asI_int, un0_nil]
    simp only [enc_cells (t := .leaf s) rfl, notNil_ip, chk_true, fldA_ip, List.drop_zero, drop2, drop3, drop4, drop5, loadS_ip, takeO_one, bindO_ok, T.left, T.right, call_of, kn, unA_agg, unc_cons, asI_int, un0_nil, apart_kept, apart_kept2, Bool.and_self, ifB_decide, oneOf_one, frz_enc, if_neg q]
  | .node l r, off, n, st, w, h1, h2, hs, hro => by
    obtain ⟨hl, hr, wl, wrr, b1, b2⟩ := w
    have pl := depth_pos hl
    have q : ((T.node l r).depth : Int) > 1 := by simp only [T.depth]; omega
    obtain ⟨st1, hro1, fx, ev, l0, l1⟩ := var3 hro (l.size : Int) (l.ends : Int) (l.depth : Int)
    have el := l.ends_le
    simp only [T.ends] at h2
    simp only [T.size] at hs
    have step : ∀ s', g16_L1 ([.int .i64 (off : Int), .int .i64 (n : Int), (T.node l r).enc], st) = some (.inl s') → loopO g16_L1 ([.int .i64 (off : Int), .int .i64 (n : Int), (T.node l r).enc], st) = loopO g16_L1 s' := fun s' h => loopO_inl h
    by_cases c : n > l.ends
    · have c' : (n : Int) > (l.ends : Int) := by omega
      have w1 : IntKind.wrap .i64 ((off : Int) + (l.size : Int)) = ((off + l.size : Nat) : Int) := by rw [← wrapN (n := off + l.size) (by omega)]; rfl
      have w2 : IntKind.wrap .i64 ((n : Int) - (l.ends : Int)) = ((n - l.ends : Nat) : Int) := by rw [← wrapN (n := n - l.ends) (by have := r.ends_le; omega)]; congr 1; omega
      obtain ⟨s, off', n', st', e, i1, i2, i3, i4⟩ := line_down r (off + l.size) (n - l.ends) st1 wrr (by omega) (by omega) (by omega) hro1
      refine ⟨s, off', n', st', ?_, ?_, i2, i3, by simp only [T.size]; omega⟩
      · rw [step ([.int .i64 ((off + l.size : Nat) : Int), .int .i64 ((n - l.ends : Nat) : Int), r.enc], st1) ?_]
        · exact e
        · simp only [g16_L1, unc_cons, asI_int, un0_nil]
          simp only [enc_cells (t := .node l r) rfl, notNil_ip, chk_true, fldA_ip, List.drop_zero, drop2, drop3, drop4, drop5, loadS_ip, takeO_one, bindO_ok, T.left, T.right, call_of, kn, unA_agg, unc_cons, asI_int, un0_nil, apart_kept, apart_kept2, Bool.and_self, ifB_decide, oneOf_one, frz_enc, if_pos q, letSt_eq, ev, l0, l1, if_pos c', letV_eq, w1, w2]
      · rw [← i1, T.text, lineP_app _ _ _ h1, ends_text, if_neg (by omega), size_text, Option.map_map]
        cases lineP r.text (n - l.ends) with
        | none => rfl
        | some p => simp; omega
    · have c' : ¬ (n : Int) > (l.ends : Int) := by omega
      obtain ⟨s, off', n', st', e, i1, i2, i3, i4⟩ := line_down l off n st1 wl h1 (by omega) (by omega) hro1
      refine ⟨s, off', n', st', ?_, ?_, i2, i3, by simp only [T.size]; omega⟩
      · rw [step ([.int .i64 (off : Int), .int .i64 (n : Int), l.enc], st1) ?_]
        · exact e
        · simp only [g16_L1, unc_cons, asI_int, un0_nil]
          simp only [enc_cells (t := .node l r) rfl, notNil_ip, chk_true, fldA_ip, List.drop_zero, drop2, drop3, drop4, drop5, loadS_ip, takeO_one, bindO_ok, T.left, T.right, call_of, kn, unA_agg, unc_cons, asI_int, un0_nil, apart_kept, apart_kept2, Bool.and_self, ifB_decide, oneOf_one, frz_enc, if_pos q, letSt_eq, ev, l0, l1, if_neg c']
      · rw [← i1, T.text, lineP_app _ _ _ h1, ends_text, if_pos (by omega)]
theorem line_in (s : List UInt8) (off : Nat) (st : St) (hs : off + s.length ≤ 1000000) : ∀ (l : List UInt8) (i n p : Nat) (a b : Int), s.drop i = l → 1 ≤ n → n ≤ 1000000 → lineP l n = some p →
    loopO (g16_L2 (off : Int) (T.leaf s).enc s) ([.int .i64 (n : Int), .int .i64 a, .int .i64 b, .int .i64 (i : Int)], st) = some (1, [.int .i64 ((off + i + p : Nat) : Int), .int .i64 0], st)
  | [], i, n, p, a, b, hd, h1, hn, hp => by cases hp
  | c :: l, i, n, p, a, b, hd, h1, hn, hp => by
    obtain ⟨hg, hr, hlt⟩ := drop_cons hd
    have hi : (i : Int) < (s.length : Int) := by omega
    have hc : s[i] = c := by
      have := List.getElem?_eq_getElem hlt
      rw [hg] at this; exact (Option.some.inj this).symm
    have w1 : IntKind.wrap .i64 ((i : Int) + 1) = ((i + 1 : Nat) : Int) := by rw [← wrapN (n := i + 1) (by omega)]; rfl
    simp only [lineP] at hp
    by_cases hb : c = 10
    · subst hb
      have w2 : IntKind.wrap .i64 ((n : Int) - 1) = ((n - 1 : Nat) : Int) := by rw [← wrapN (n := n - 1) (by omega)]; congr 1; omega
      have q : ((UInt8.toNat (10 : UInt8) : Nat) : Int) = 10 := rfl
      rw [if_pos rfl] at hp
      by_cases hn1 : n = 1
      · subst hn1
        rw [if_pos rfl] at hp
        cases hp
        have w3 : IntKind.wrap .i64 ((off : Int) + (i : Int)) = ((off + i : Nat) : Int) := by rw [← wrapN (n := off + i) (by omega)]; rfl
        have w4 : IntKind.wrap .i64 (((off + i : Nat) : Int) + 1) = ((off + i + 1 : Nat) : Int) := by rw [← wrapN (n := off + i + 1) (by omega)]; rfl
        have z : ((1 - 1 : Nat) : Int) = 0 := rfl
        refine loopO_inr ?_
        simp only [g16_L2, unc_cons, asI_int, un0_nil]
        simp only [ifB_decide, if_pos hi, enc_cells (t := .leaf s) rfl, T.own, notNil_ip, chk_true, fldA_ip, drop3, loadS_ip, takeO_one, bindO_ok, asS_str, idxStr_nat hlt, hc, q, ifB_beq, if_true, letV_eq, w2, unc_cons, asI_int, un0_nil, z, w3, w4]
      · rw [if_neg hn1] at hp
        have z : ¬ ((n - 1 : Nat) : Int) = 0 := by omega
        obtain ⟨p', hp', rfl⟩ := Option.map_eq_some_iff.1 hp
        have ih := line_in s off st hs l (i + 1) (n - 1) p' a b hr (by omega) (by omega) hp'
        rw [loopO_inl (s' := ([.int .i64 ((n - 1 : Nat) : Int), .int .i64 a, .int .i64 b, .int .i64 ((i + 1 : Nat) : Int)], st)), ih]
        · rw [show off + (i + 1) + p' = off + i + (p' + 1) by omega]
        · simp only [g16_L2, unc_cons, asI_int, un0_nil]
          simp only [ifB_decide, if_pos hi, enc_cells (t := .leaf s) rfl, T.own, notNil_ip, chk_true, fldA_ip, drop3, loadS_ip, takeO_one, bindO_ok, asS_str, idxStr_nat hlt, hc, q, ifB_beq, if_true, letV_eq, w2, unc_cons, asI_int, un0_nil, if_neg z, w1]
    · rw [if_neg hb] at hp
      have q : ¬ ((UInt8.toNat c : Nat) : Int) = 10 := by
        intro h
        have : c.toNat = 10 := by omega
        exact hb (UInt8.toNat_inj.1 this)
      have z : ¬ (n : Int) = 0 := by omega
      obtain ⟨p', hp', rfl⟩ := Option.map_eq_some_iff.1 hp
      have ih := line_in s off st hs l (i + 1) n p' a b hr h1 hn hp'
      rw [loopO_inl (s' := ([.int .i64 (n : Int), .int .i64 a, .int .i64 b, .int .i64 ((i + 1 : Nat) : Int)], st)), ih]
      · rw [show off + (i + 1) + p' = off + i + (p' + 1) by omega]
      · simp only [g16_L2, unc_cons, asI_int, un0_nil]
        simp only [ifB_decide, if_pos hi, enc_cells (t := .leaf s) rfl, T.own, notNil_ip, chk_true, fldA_ip, drop3, loadS_ip, takeO_one, bindO_ok, asS_str, idxStr_nat hlt, hc, ifB_beq, if_neg q, letV_eq, unc_cons, asI_int, un0_nil, if_neg z, w1]
/-- What Line says. -/
def lineR (s : List UInt8) (n : Int) : Int × Int :=
  if n = 0 then (0, 0) else if n < 0 then (0, 1) else match lineP s n.toNat with
    | some p => ((p : Int), 0)
    | none => (0, 1)
theorem line_ok {t : T} (w : WF t) (hs : t.size ≤ 1000000) (n : Int) : (orc vE).bare 16 [rp t, .int .i64 n] = some (.tup [.int .i64 (lineR t.text n).1, .int .i64 (lineR t.text n).2]) := by
  refine bare_of rfl ((g16_eq _ _).trans ?_)
  simp only [g16, asI_int, nil_rp, ifB_false, ifB_decide, call_ends]
  unfold lineR
  by_cases c0 : n < 0
  · have c1 : ¬ n = 0 := by omega
    simp only [if_pos c0, if_neg c1, bindO_ok, unc_cons, asB_bool, un0_nil, ifB_true]
  · by_cases c1 : n = 0
    · subst c1
      have : ¬ (0 : Int) > (t.ends : Int) := by omega
      simp only [if_neg c0, bindO_ok, unc_cons, asB_bool, un0_nil, ifB_decide, if_neg this, ifB_beq, if_true]
    · obtain ⟨m, rfl⟩ := Int.eq_ofNat_of_zero_le (show 0 ≤ n by omega)
      by_cases c2 : (m : Int) > (t.ends : Int)
      · have : lineP t.text m = none := lineP_none _ _ (by rw [ends_text]; omega)
        simp only [if_neg c0, if_neg c1, Int.toNat_natCast, this, bindO_ok, unc_cons, asB_bool, un0_nil, ifB_decide, if_pos c2]
      · obtain ⟨s, off', n', st', e, i1, i2, i3, i4⟩ := line_down t 0 m (St.mk 0 0 Tr.leaf) w (by omega) (by omega) (by omega) (Nat.le_refl _)
        obtain ⟨p, hp, p1, p2, _⟩ := lineP_some s n' i2 i3
        have hl := s.count_le_length (a := 10)
        have e2 := line_in s off' st' (by omega) s 0 n' p 0 0 rfl i2 (by omega) hp
        have ht : lineP t.text m = some (off' + p) := by
          rw [hp] at i1
          have : (lineP t.text m).map (· + 0) = lineP t.text m := by cases lineP t.text m <;> rfl
          rw [this] at i1
          rw [i1]; simp; omega
        simp only [if_neg c0, if_neg c1, Int.toNat_natCast, ht, bindO_ok, unc_cons, asB_bool, un0_nil, ifB_decide, if_neg c2, ifB_beq]
        simp only [rp, notNil_ip, chk_true, fldA_ip, List.drop_zero, loadS_ip, takeO_one, bindO_ok]
        rw [show (([AV.int .i64 0, AV.int .i64 (m : Int), t.enc], St.mk 0 0 Tr.leaf) : Car) = ([AV.int .i64 ((0 : Nat) : Int), AV.int .i64 (m : Int), t.enc], St.mk 0 0 Tr.leaf) from rfl, e]
        simp only [bindO_ok, unc_cons, asI_int, un0_nil]
        have e2 : loopO (g16_L2 (off' : Int) (T.leaf s).enc s) ([.int .i64 (n' : Int), .int .i64 0, .int .i64 0, .int .i64 0], st') = _ := e2
        have ec : ∀ {β : Type} (K : AV → List Nat → Option β) (st : St), chk (notNil (T.leaf s).enc) (fldA 3 (T.leaf s).enc fun v => loadS 1 false v st K) = K (.str s) [] := fun K st => by
          rw [enc_cells (t := .leaf s) rfl]
          simp only [notNil_ip, chk_true, fldA_ip, drop3, loadS_ip, takeO_one, bindO_ok, T.own]
        rw [ec]
        simp only [asS_str]
        rw [e2]
        simp only [bindO_ok, unc_cons, asI_int, un0_nil, sel2_one, Nat.add_zero]
theorem line_nil (n : Int) : (orc vE).bare 16 [.nilp, .int .i64 n] = some (.tup [.int .i64 0, .int .i64 2]) := by
  refine bare_of rfl ((g16_eq _ _).trans ?_)
  simp only [g16, asI_int, nil_nil, ifB_true]
/-- What Ahead says. -/
def aheadR (s : List UInt8) (n : Int) : Int × Int :=
  if n < 0 ∨ n > (s.length : Int) then (0, 1) else (((s.take n.toNat).count 10 : Nat), 0)
theorem ahead_down : ∀ (t : T) (at' n : Nat) (st : St), WF t → at' ≤ t.size → t.size ≤ 1000000 → n ≤ 1000000 → n + t.ends ≤ 1000000 → st.ro ≤ st.h →
    ∃ (u : T) (i k : Nat) (st' : St), loopO g17_L1 ([.int .i64 (at' : Int), .int .i64 (n : Int), t.enc], st) = some (0, [.int .i64 (i : Int), .int .i64 (k : Int), u.enc], st') ∧ u.depth ≤ 1 ∧ WF u ∧ i ≤ u.size ∧
      k + (u.text.take i).count 10 = n + (t.text.take at').count 10 ∧ k + u.ends ≤ 1000000
  | .nil, i, n, st, _, h1, _, _, h3, _ => by
    refine ⟨.nil, i, n, st, ?_, by simp [T.depth], trivial, h1, rfl, h3⟩
    refine loopO_inr ?_
    simp only [g17_L1, unc_cons, asI_int, un0_nil, T.nil_enc, T.isNil, Bool.not_true, ifB_false, bindO_ok, asB_bool]
  | .leaf s, i, n, st, w, h1, _, _, h3, _ => by
    refine ⟨.leaf s, i, n, st, ?_, Nat.le_refl _, w, h1, rfl, h3⟩
    refine loopO_inr ?_
    have q : ¬ ((T.leaf s).depth : Int) > 1 := by simp [T.depth]
    simp only [g17_L1, unc_cons, asI_int, un0_nil, T.nil_enc, T.isNil, Bool.not_false, ifB_true]
    simp only [enc_cells (t := .leaf s) rfl, notNil_ip, chk_true, fldA_ip, List.drop_zero, drop2, drop3, drop4, drop5, loadS_ip, takeO_one, bindO_ok, T.left, T.right, call_of, kn, unA_agg, unc_cons, asI_int, un0_nil, apart_kept, apart_kept2, Bool.and_self, ifB_decide, oneOf_one, frz_enc, asB_bool, if_neg q]
  | .node l r, i, n, st, w, h1, h2, hn, h3, hro => by
    obtain ⟨hl, hr, wl, wrr, b1, b2⟩ := w
    have pl := depth_pos hl
    have q : ((T.node l r).depth : Int) > 1 := by simp only [T.depth]; omega
    obtain ⟨st1, hro1, fx, ev, l0, l1⟩ := var3 hro (l.size : Int) (l.ends : Int) (l.depth : Int)
    have el := l.ends_le
    simp only [T.ends] at h3
    simp only [T.size] at h1 h2
    have step : ∀ s', g17_L1 ([.int .i64 (i : Int), .int .i64 (n : Int), (T.node l r).enc], st) = some (.inl s') → loopO g17_L1 ([.int .i64 (i : Int), .int .i64 (n : Int), (T.node l r).enc], st) = loopO g17_L1 s' := fun s' h => loopO_inl h
    by_cases c : i > l.size
    · have c' : (i : Int) > (l.size : Int) := by omega
      have w1 : IntKind.wrap .i64 ((i : Int) - (l.size : Int)) = ((i - l.size : Nat) : Int) := by rw [← wrapN (n := i - l.size) (by omega)]; congr 1; omega
      have w2 : IntKind.wrap .i64 ((n : Int) + (l.ends : Int)) = ((n + l.ends : Nat) : Int) := by rw [← wrapN (n := n + l.ends) (by omega)]; rfl
      obtain ⟨u, i', k, st', e, i1, i2, i3, i4, i5⟩ := ahead_down r (i - l.size) (n + l.ends) st1 wrr (by omega) (by omega) (by omega) (by omega) hro1
      refine ⟨u, i', k, st', ?_, i1, i2, i3, ?_, i5⟩
      · rw [step ([.int .i64 ((i - l.size : Nat) : Int), .int .i64 ((n + l.ends : Nat) : Int), r.enc], st1) ?_]
        · exact e
        · simp only [g17_L1, unc_cons, asI_int, un0_nil, T.nil_enc, T.isNil, Bool.not_false, ifB_true]
          simp only [enc_cells (t := .node l r) rfl, notNil_ip, chk_true, fldA_ip, List.drop_zero, drop2, drop3, drop4, drop5, loadS_ip, takeO_one, bindO_ok, T.left, T.right, call_of, kn, unA_agg, unc_cons, asI_int, un0_nil, apart_kept, apart_kept2, Bool.and_self, ifB_decide, oneOf_one, frz_enc, asB_bool, if_pos q, letSt_eq, ev, l0, l1, if_pos c', letV_eq, w1, w2]
      · rw [i4, T.text, List.take_append, List.count_append, size_text, show l.text.take i = l.text from List.take_of_length_le (by rw [size_text]; omega), ends_text]
        omega
    · have c' : ¬ (i : Int) > (l.size : Int) := by omega
      obtain ⟨u, i', k, st', e, i1, i2, i3, i4, i5⟩ := ahead_down l i n st1 wl (by omega) (by omega) hn (by omega) hro1
      refine ⟨u, i', k, st', ?_, i1, i2, i3, ?_, i5⟩
      · rw [step ([.int .i64 (i : Int), .int .i64 (n : Int), l.enc], st1) ?_]
        · exact e
        · simp only [g17_L1, unc_cons, asI_int, un0_nil, T.nil_enc, T.isNil, Bool.not_false, ifB_true]
          simp only [enc_cells (t := .node l r) rfl, notNil_ip, chk_true, fldA_ip, List.drop_zero, drop2, drop3, drop4, drop5, loadS_ip, takeO_one, bindO_ok, T.left, T.right, call_of, kn, unA_agg, unc_cons, asI_int, un0_nil, apart_kept, apart_kept2, Bool.and_self, ifB_decide, oneOf_one, frz_enc, asB_bool, if_pos q, letSt_eq, ev, l0, l1, if_neg c']
      · rw [i4, T.text, List.take_append, size_text, show i - l.size = 0 by omega]; simp
theorem ahead_ok {t : T} (w : WF t) (hs : t.size ≤ 1000000) (n : Int) : (orc vE).bare 17 [rp t, .int .i64 n] = some (.tup [.int .i64 (aheadR t.text n).1, .int .i64 (aheadR t.text n).2]) := by
  refine bare_of rfl ((g17_eq _ _).trans ?_)
  simp only [g17, asI_int, nil_rp, ifB_false, ifB_decide, call_len]
  unfold aheadR
  rw [size_text]
  by_cases c0 : n < 0
  · simp only [if_pos c0, if_pos (show n < 0 ∨ n > (t.size : Int) from .inl c0), bindO_ok, unc_cons, asB_bool, un0_nil, ifB_true]
  · by_cases c1 : n > (t.size : Int)
    · simp only [if_neg c0, if_pos (show n < 0 ∨ n > (t.size : Int) from .inr c1), bindO_ok, unc_cons, asB_bool, un0_nil, ifB_decide, if_pos c1]
    · obtain ⟨m, rfl⟩ := Int.eq_ofNat_of_zero_le (show 0 ≤ n by omega)
      have el := t.ends_le
      obtain ⟨u, i, k, st', e, i1, i2, i3, i4, i5⟩ := ahead_down t m 0 (St.mk 0 0 Tr.leaf) w (by omega) hs (by omega) (by omega) (Nat.le_refl _)
      simp only [if_neg c0, if_neg (show ¬ ((m : Int) < 0 ∨ (m : Int) > (t.size : Int)) by omega), bindO_ok, unc_cons, asB_bool, un0_nil, ifB_decide, if_neg c1, Int.toNat_natCast]
      simp only [rp, notNil_ip, chk_true, fldA_ip, List.drop_zero, loadS_ip, takeO_one, bindO_ok]
      rw [show (([AV.int .i64 (m : Int), AV.int .i64 0, t.enc], St.mk 0 0 Tr.leaf) : Car) = ([AV.int .i64 (m : Int), AV.int .i64 ((0 : Nat) : Int), t.enc], St.mk 0 0 Tr.leaf) from rfl, e]
      simp only [bindO_ok, unc_cons, asI_int, un0_nil, T.nil_enc]
      cases hu : u.isNil with
      | true =>
        rw [nil_of hu] at i4
        simp only [T.text, List.take_nil, List.count_nil, Nat.add_zero, Nat.zero_add] at i4
        simp only [Bool.not_true, ifB_false, bindO_ok, unc_cons, asI_int, un0_nil, i4]
      | false =>
        have pu := depth_pos hu
        have lu := leaf_of i2 (by omega)
        have hi : i ≤ u.own.length := by rw [lu] at i3; exact i3
        have ht : u.text = u.own := by rw [lu]; rfl
        rw [ht] at i4
        have hb := (u.own.take i).count_le_length (a := 10)
        rw [List.length_take] at hb
        have w1 : IntKind.wrap .i64 ((k : Int) + (((u.own.take i).count 10 : Nat) : Int)) = ((k + (u.own.take i).count 10 : Nat) : Int) := by
          have : u.own.length = u.size := by rw [lu]; rfl
          have hm := (t.text.take m).count_le_length (a := 10)
          rw [List.length_take, size_text] at hm
          rw [← wrapN (n := k + (u.own.take i).count 10) (by omega)]; rfl
        rw [enc_cells hu]
        simp only [Bool.not_false, ifB_true, notNil_ip, chk_true, fldA_ip, drop3, loadS_ip, takeO_one, bindO_ok, asS_str, uptoS_nat hi, letV_eq, List.drop_zero, count_lib, asI_int, w1, unc_cons, un0_nil, i4, Nat.zero_add]
theorem ahead_nil (n : Int) : (orc vE).bare 17 [.nilp, .int .i64 n] = some (.tup [.int .i64 0, .int .i64 2]) := by
  refine bare_of rfl ((g17_eq _ _).trans ?_)
  simp only [g17, asI_int, nil_nil, ifB_true]
end Go.Proofs.Ytdfofconhfhgdaa.Vm
/- Ropes: the reference; same. -/
set_option maxRecDepth 100000
set_option linter.unusedSimpArgs false
namespace Go.Proofs.Ytdfofconhfhgdaa.Vm
open Go Go.VM Go.Proofs
open T

theorem is_ok (s : List UInt8) (x y : Int) : (orc vE).bare 10 [.str s, spV x y] = some (.bool (isS s.length x y)) := by
  refine bare_of rfl ((g10_eq _ _).trans ?_)
  simp only [g10, spV, asS_str, unA_agg, unc_cons, asI_int, un0_nil, ifB_decide]
  unfold isS
  by_cases h1 : x ≥ 0
  · by_cases h2 : x ≤ y
    · simp only [if_pos h1, if_pos h2, bindO_ok, unc_cons, asB_bool, un0_nil]
      congr 3
      exact propext ⟨fun h => ⟨h1, h2, h⟩, fun h => h.2.2⟩
    · have : ¬ (0 ≤ x ∧ x ≤ y ∧ y ≤ (s.length : Int)) := fun h => h2 h.2.1
      simp only [if_pos h1, if_neg h2, bindO_ok, unc_cons, asB_bool, un0_nil, decide_eq_false this]
  · have : ¬ (0 ≤ x ∧ x ≤ y ∧ y ≤ (s.length : Int)) := fun h => h1 h.1
    simp only [if_neg h1, bindO_ok, unc_cons, asB_bool, un0_nil, decide_eq_false this]
theorem call_is {β : Type} (s : List UInt8) (x y : Int) (st : St) (K : Kv β) : callS (orc vE) 10 [.str s, .agg [.int .i64 x, .int .i64 y]] st K = K (.bool (isS s.length x y)) st q0 := callS_bare st K rfl rfl rfl (is_ok s x y)
theorem put_ok {s r : List UInt8} {x y : Int} (h : isS s.length x y = true) (hs : s.length ≤ 1000000) (hr : r.length ≤ 1000000) : (orc vE).bare 14 [.str s, spV x y, .str r] = some (.str (putT s x y r)) := by
  refine bare_of rfl ((g14_eq _ _ _).trans ?_)
  obtain ⟨i, j, rfl, rfl, h1, h2⟩ := isS_nat h
  have k1 : Nat.ble ((s.take i).length + r.length) 9223372036854775807 = true := Nat.ble_eq_true_of_le (by rw [List.length_take]; omega)
  have k2 : Nat.ble ((s.take i ++ r).length + (s.drop j).length) 9223372036854775807 = true := Nat.ble_eq_true_of_le (by rw [List.length_append, List.length_take, List.length_drop]; omega)
  simp only [g14, spV, asS_str, unA_agg, unc_cons, asI_int, un0_nil, uptoS_nat (show i ≤ s.length by omega), uptoS_nat h2, letV_eq, List.drop_zero, List.take_length, k1, k2, chk_true, putT, Int.toNat_natCast]
theorem call_put {β : Type} {s r : List UInt8} {x y : Int} (h : isS s.length x y = true) (hs : s.length ≤ 1000000) (hr : r.length ≤ 1000000) (st : St) (K : Kv β) : callS (orc vE) 14 [.str s, .agg [.int .i64 x, .int .i64 y], .str r] st K = K (.str (putT s x y r)) st q0 := callS_bare st K rfl rfl rfl (put_ok h hs hr)
theorem sp_ok (x y : Int) : (orc vE).bare 13 [.int .i64 x, .int .i64 y] = some (spV x y) := bare_of rfl ((g13_eq _ _).trans (by simp only [g13, asI_int, spV]))
theorem call_sp {β : Type} (x y : Int) (st : St) (K : Kv β) : callS (orc vE) 13 [.int .i64 x, .int .i64 y] st K = K (.agg [.int .i64 x, .int .i64 y]) st q0 := callS_bare st K rfl rfl rfl (sp_ok x y)
theorem byte_eq {c : UInt8} (h : c ≠ 10) : ¬ ((c.toNat : Nat) : Int) = 10 := by
  intro k
  have : c.toNat = 10 := by omega
  exact h (UInt8.toNat_inj.1 this)
theorem ends_loop (s : List UInt8) (st : St) (hs : s.length ≤ 1000000) : ∀ (l : List UInt8) (i n : Nat), s.drop i = l → i ≤ s.length → n ≤ i →
    loopO (g35_L1 s) ([.int .i64 (n : Int), .int .i64 (i : Int)], st) = some (0, [.int .i64 ((n + l.count 10 : Nat) : Int)], st)
  | [], i, n, hd, hi, hn => by
    have := List.drop_eq_nil_iff.1 hd
    have q : ¬ (i : Int) < (s.length : Int) := by omega
    refine loopO_inr ?_
    simp only [g35_L1, unc_cons, asI_int, un0_nil, ifB_decide, if_neg q, List.count_nil, Nat.add_zero]
  | c :: l, i, n, hd, hi, hn => by
    obtain ⟨hg, hr, hlt⟩ := drop_cons hd
    have q : (i : Int) < (s.length : Int) := by omega
    have hc : s[i] = c := by
      have := List.getElem?_eq_getElem hlt
      rw [hg] at this; exact (Option.some.inj this).symm
    have w1 : IntKind.wrap .i64 ((i : Int) + 1) = ((i + 1 : Nat) : Int) := by rw [← wrapN (n := i + 1) (by omega)]; rfl
    have w2 : IntKind.wrap .i64 ((n : Int) + 1) = ((n + 1 : Nat) : Int) := by rw [← wrapN (n := n + 1) (by omega)]; rfl
    by_cases hb : c = 10
    · subst hb
      have z : ((UInt8.toNat (10 : UInt8) : Nat) : Int) = 10 := rfl
      rw [loopO_inl (s' := ([.int .i64 ((n + 1 : Nat) : Int), .int .i64 ((i + 1 : Nat) : Int)], st)), ends_loop s st hs l (i + 1) (n + 1) hr (by omega) (by omega)]
      · simp only [List.count_cons, beq_self_eq_true, if_true]
        rw [show n + 1 + l.count 10 = n + (l.count 10 + 1) by omega]
      · simp only [g35_L1, unc_cons, asI_int, un0_nil, ifB_decide, if_pos q, idxStr_nat hlt, hc, z, ifB_beq, if_true, letV_eq, w1, w2, bindO_ok]
    · rw [loopO_inl (s' := ([.int .i64 (n : Int), .int .i64 ((i + 1 : Nat) : Int)], st)), ends_loop s st hs l (i + 1) n hr (by omega) (by omega)]
      · simp only [List.count_cons, beq_false_of_ne hb, Bool.false_eq_true, if_false, Nat.add_zero]
      · simp only [g35_L1, unc_cons, asI_int, un0_nil, ifB_decide, if_pos q, idxStr_nat hlt, hc, ifB_beq, if_neg (byte_eq hb), letV_eq, w1, bindO_ok]
theorem ends_ref {s : List UInt8} (hs : s.length ≤ 1000000) : (orc vE).bare 35 [.str s] = some (.int .i64 (s.count 10 : Int)) := by
  refine bare_of rfl ((g35_eq _).trans ?_)
  have h : loopO (g35_L1 s) ([.int .i64 0, .int .i64 0], St.mk 0 0 Tr.leaf) = _ := ends_loop s (St.mk 0 0 Tr.leaf) hs s 0 0 rfl (by omega) (by omega)
  simp only [g35, asS_str]
  rw [h]
  simp only [bindO_ok, unc_cons, asI_int, un0_nil, Nat.zero_add]
theorem call_ends_ref {β : Type} {s : List UInt8} (hs : s.length ≤ 1000000) (st : St) (K : Kv β) : callS (orc vE) 35 [.str s] st K = K (.int .i64 (s.count 10 : Int)) st q0 := callS_bare st K rfl rfl rfl (ends_ref hs)
theorem ahead_ref {s : List UInt8} (hs : s.length ≤ 1000000) (n : Int) : (orc vE).bare 26 [.agg [.str s], .int .i64 n] = some (.tup [.int .i64 (aheadR s n).1, .int .i64 (aheadR s n).2]) := by
  refine bare_of rfl ((g26_eq _ _).trans ?_)
  simp only [g26, unA_agg, unc_cons, asS_str, un0_nil, asI_int, ifB_decide]
  unfold aheadR
  by_cases c0 : n < 0
  · simp only [if_pos c0, if_pos (show n < 0 ∨ n > (s.length : Int) from .inl c0), bindO_ok, unc_cons, asB_bool, un0_nil, ifB_true]
  · by_cases c1 : n > (s.length : Int)
    · simp only [if_neg c0, if_pos (show n < 0 ∨ n > (s.length : Int) from .inr c1), bindO_ok, unc_cons, asB_bool, un0_nil, ifB_decide, if_pos c1]
    · obtain ⟨m, rfl⟩ := Int.eq_ofNat_of_zero_le (show 0 ≤ n by omega)
      have h2 : m ≤ s.length := by omega
      have h3 : (s.take m).length ≤ 1000000 := by rw [List.length_take]; omega
      simp only [if_neg c0, if_neg (show ¬ ((m : Int) < 0 ∨ (m : Int) > (s.length : Int)) by omega), bindO_ok, unc_cons, asB_bool, un0_nil, ifB_decide, if_neg c1, uptoS_nat h2, letV_eq, List.drop_zero, call_ends_ref h3, asI_int, Int.toNat_natCast]
theorem slice_ref (s : List UInt8) (x y : Int) : (orc vE).bare 24 [.agg [.str s], spV x y] = some (if isS s.length x y then .tup [.str ((s.take y.toNat).drop x.toNat), .int .i64 0] else .tup [.str [], .int .i64 1]) := by
  refine bare_of rfl ((g24_eq _ _).trans ?_)
  simp only [g24, spV, unA_agg, unc_cons, asS_str, un0_nil, asI_int, call_is, asB_bool]
  cases h : isS s.length x y with
  | false => rfl
  | true =>
    obtain ⟨i, j, rfl, rfl, h1, h2⟩ := isS_nat h
    simp only [Bool.not_true, ifB_false, uptoS_nat h2, uptoS_nat h1, letV_eq, if_true, Int.toNat_natCast]
theorem ref_wraps {n : Nat} {x y : Int} {k : Nat} (hs : n ≤ 1000000) (hk : k ≤ 65536) (h : isS n x y = true) : IntKind.wrap .i64 (y - x) = y - x ∧ IntKind.wrap .i64 ((n : Int) - (y - x)) = (n : Int) - (y - x) ∧ IntKind.wrap .i64 ((n : Int) - (y - x) + k) = (n : Int) - (y - x) + k := by
  simp only [isS, decide_eq_true_eq] at h
  exact ⟨wrap_i64 (by omega) (by omega), wrap_i64 (by omega) (by omega), wrap_i64 (by omega) (by omega)⟩
theorem replace_ref {s r : List UInt8} (x y : Int) (hs : s.length ≤ 1000000) : (orc vE).bare 23 [.agg [.str s], spV x y, .str r] = some (if isS s.length x y then (if roomT s.length x y r.length then .tup [.agg [.str (putT s x y r)], .int .i64 0] else .tup [.agg [.str []], .int .i64 40]) else .tup [.agg [.str []], .int .i64 1]) := by
  refine bare_of rfl ((g23_eq _ _ _).trans ?_)
  simp only [g23, spV, unA_agg, unc_cons, asS_str, un0_nil, asI_int, call_is, asB_bool]
  cases h : isS s.length x y with
  | false => rfl
  | true =>
    simp only [Bool.not_true, ifB_false, ifB_decide, if_true]
    by_cases c : (r.length : Int) > 65536
    · have hr : roomT s.length x y r.length = false := by
        simp only [isS, decide_eq_true_eq] at h
        simp only [roomT, decide_eq_false_iff_not]; omega
      simp only [if_pos c, hr, bindO_ok, unc_cons, asB_bool, un0_nil, ifB_true]
      rfl
    · obtain ⟨w1, w2, w3⟩ := ref_wraps (k := r.length) hs (by omega) h
      simp only [if_neg c, letV_eq, w1, w2, w3, bindO_ok, unc_cons, asB_bool, un0_nil, ifB_decide]
      by_cases c2 : (s.length : Int) - (y - x) + (r.length : Int) > 65536
      · have hr : roomT s.length x y r.length = false := by
          simp only [roomT, decide_eq_false_iff_not]; omega
        rw [if_pos c2, hr]; rfl
      · have hr : roomT s.length x y r.length = true := by
          simp only [roomT, decide_eq_true_eq]; omega
        rw [if_neg c2, hr]
        simp only [call_put h hs (show r.length ≤ 1000000 by omega), asS_str]
        rfl
theorem line_loop (s : List UInt8) (st : St) (a b : Int) (hs : s.length ≤ 1000000) : ∀ (l : List UInt8) (i n : Nat), s.drop i = l → i ≤ s.length → 1 ≤ n → n ≤ 9223372036854775807 →
    ∃ a' b' k, loopO (g25_L1 s) ([.int .i64 (n : Int), .int .i64 a, .int .i64 b, .int .i64 (i : Int)], st) = some (match lineP l n with | some p => (k, [.int .i64 ((i + p : Nat) : Int), .int .i64 0], st) | none => (0, [.int .i64 a', .int .i64 b'], st)) ∧ k = 1
  | [], i, n, hd, hi, hn, hm => by
    have := List.drop_eq_nil_iff.1 hd
    have q : ¬ (i : Int) < (s.length : Int) := by omega
    refine ⟨a, b, 1, loopO_inr ?_, rfl⟩
    simp only [g25_L1, unc_cons, asI_int, un0_nil, ifB_decide, if_neg q, bindO_ok, asB_bool, ifB_false, lineP]
  | c :: l, i, n, hd, hi, hn, hm => by
    obtain ⟨hg, hr, hlt⟩ := drop_cons hd
    have q : (i : Int) < (s.length : Int) := by omega
    have q2 : (n : Int) > 0 := by omega
    have hc : s[i] = c := by
      have := List.getElem?_eq_getElem hlt
      rw [hg] at this; exact (Option.some.inj this).symm
    have w1 : IntKind.wrap .i64 ((i : Int) + 1) = ((i + 1 : Nat) : Int) := by rw [← wrapN (n := i + 1) (by omega)]; rfl
    simp only [lineP]
    by_cases hb : c = 10
    · subst hb
      have z : ((UInt8.toNat (10 : UInt8) : Nat) : Int) = 10 := rfl
      have w2 : IntKind.wrap .i64 ((n : Int) - 1) = ((n - 1 : Nat) : Int) := by rw [← wrapN (n := n - 1) (by omega)]; congr 1; omega
      rw [if_pos rfl]
      by_cases hn1 : n = 1
      · subst hn1
        have z1 : ((1 - 1 : Nat) : Int) = 0 := rfl
        refine ⟨a, b, 1, ?_, rfl⟩
        rw [if_pos rfl]
        refine loopO_inr ?_
        simp only [g25_L1, unc_cons, asI_int, un0_nil, ifB_decide, if_pos q, if_pos q2, bindO_ok, asB_bool, idxStr_nat hlt, hc, z, ifB_beq, if_true, letV_eq, w2, z1, w1, onSum_inr]
      · have z1 : ¬ ((n - 1 : Nat) : Int) = 0 := by omega
        obtain ⟨a', b', k, ih, hk⟩ := line_loop s st a b hs l (i + 1) (n - 1) hr (by omega) (by omega) (by omega)
        refine ⟨a', b', k, ?_, hk⟩
        rw [if_neg hn1, loopO_inl (s' := ([.int .i64 ((n - 1 : Nat) : Int), .int .i64 a, .int .i64 b, .int .i64 ((i + 1 : Nat) : Int)], st)), ih]
        · cases lineP l (n - 1) with
          | none => rfl
          | some p => simp only [Option.map_some]; rw [show i + 1 + p = i + (p + 1) by omega]
        · simp only [g25_L1, unc_cons, asI_int, un0_nil, ifB_decide, if_pos q, if_pos q2, bindO_ok, asB_bool, idxStr_nat hlt, hc, z, ifB_beq, if_true, letV_eq, w2, if_neg z1, w1, onSum_inl]
    · obtain ⟨a', b', k, ih, hk⟩ := line_loop s st a b hs l (i + 1) n hr (by omega) hn hm
      refine ⟨a', b', k, ?_, hk⟩
      rw [if_neg hb, loopO_inl (s' := ([.int .i64 (n : Int), .int .i64 a, .int .i64 b, .int .i64 ((i + 1 : Nat) : Int)], st)), ih]
      · cases lineP l n with
        | none => rfl
        | some p => simp only [Option.map_some]; rw [show i + 1 + p = i + (p + 1) by omega]
      · simp only [g25_L1, unc_cons, asI_int, un0_nil, ifB_decide, if_pos q, if_pos q2, bindO_ok, asB_bool, idxStr_nat hlt, hc, ifB_beq, if_neg (byte_eq hb), letV_eq, w1, onSum_inl]
theorem line_ref {s : List UInt8} (hs : s.length ≤ 1000000) {n : Int} (hm : n ≤ 9223372036854775807) : (orc vE).bare 25 [.agg [.str s], .int .i64 n] = some (.tup [.int .i64 (lineR s n).1, .int .i64 (lineR s n).2]) := by
  refine bare_of rfl ((g25_eq _ _).trans ?_)
  simp only [g25, unA_agg, unc_cons, asS_str, un0_nil, asI_int, ifB_beq]
  unfold lineR
  by_cases c1 : n = 0
  · rw [if_pos c1, if_pos c1]
  rw [if_neg c1, if_neg c1]
  by_cases c0 : n < 0
  · rw [if_pos c0]
    have : loopO (g25_L1 s) ([.int .i64 n, .int .i64 0, .int .i64 0, .int .i64 0], St.mk 0 0 Tr.leaf) = some (0, [.int .i64 0, .int .i64 0], St.mk 0 0 Tr.leaf) := by
      refine loopO_inr ?_
      have q2 : ¬ n > 0 := by omega
      simp only [g25_L1, unc_cons, asI_int, un0_nil, ifB_decide, decide_eq_false q2]
      by_cases q : (0 : Int) < (s.length : Int)
      · simp only [if_pos q, bindO_ok, unc_cons, asB_bool, un0_nil, ifB_false]
      · simp only [if_neg q, bindO_ok, unc_cons, asB_bool, un0_nil, ifB_false]
    rw [this]
    simp only [bindO_ok, unc_cons, asI_int, un0_nil, sel2_zero]
  · rw [if_neg c0]
    obtain ⟨m, rfl⟩ := Int.eq_ofNat_of_zero_le (show 0 ≤ n by omega)
    obtain ⟨a', b', k, e, hk⟩ := line_loop s (St.mk 0 0 Tr.leaf) 0 0 hs s 0 m rfl (by omega) (by omega) (by omega)
    subst hk
    have e : loopO (g25_L1 s) ([.int .i64 (m : Int), .int .i64 0, .int .i64 0, .int .i64 0], St.mk 0 0 Tr.leaf) = _ := e
    rw [e]
    simp only [Int.toNat_natCast]
    cases lineP s m with
    | none => simp only [bindO_ok, unc_cons, asI_int, un0_nil, sel2_zero]
    | some p => simp only [bindO_ok, unc_cons, asI_int, un0_nil, sel2_one, Nat.zero_add]
/-- How deep. -/
theorem size_depth : ∀ {t : T}, WF t → t.isNil = false → 2 ^ ((t.depth + 1) / 2) ≤ 2 * t.size
  | .nil, _, h => by cases h
  | .leaf s, w, _ => by
    have := size_pos (t := .leaf s) w rfl
    simp only [T.depth]; omega
  | .node l r, w, _ => by
    obtain ⟨hl, hr, wl, wrr, b1, b2⟩ := w
    have h1 := size_depth wl hl
    have h2 := size_depth wrr hr
    have pl := depth_pos hl
    have pr := depth_pos hr
    simp only [T.depth, T.size]
    have e : 2 ^ ((1 + max l.depth r.depth + 1) / 2) = 2 * 2 ^ ((max l.depth r.depth) / 2) := by
      rw [show (1 + max l.depth r.depth + 1) / 2 = max l.depth r.depth / 2 + 1 by omega, Nat.pow_succ, Nat.mul_comm]
    have k1 : 2 ^ ((max l.depth r.depth) / 2) ≤ 2 ^ ((l.depth + 1) / 2) := Nat.pow_le_pow_right (by omega) (by omega)
    have k2 : 2 ^ ((max l.depth r.depth) / 2) ≤ 2 ^ ((r.depth + 1) / 2) := Nat.pow_le_pow_right (by omega) (by omega)
    omega
theorem most_loop (st : St) : ∀ (k m most : Nat), m < 2 ^ k → k ≤ 60 → most + 2 * k ≤ 1000 → ∃ r : Nat, loopO g36_L1 ([.int .i64 (most : Int), .int .i64 (m : Int)], st) = some (0, [.int .i64 (r : Int)], st) ∧ most ≤ r ∧ ∀ j, 2 ^ j ≤ 2 * m → most + 2 * j ≤ r
  | k, 0, most, _, _, _ => by
    refine ⟨most, loopO_inr ?_, Nat.le_refl _, fun j h => ?_⟩
    · have q : ¬ ((0 : Nat) : Int) > 0 := by omega
      simp only [g36_L1, unc_cons, asI_int, un0_nil, ifB_decide, if_neg q]
    · have := Nat.one_le_two_pow (n := j)
      omega
  | 0, m + 1, _, h, _, _ => by simp at h
  | k + 1, m + 1, most, h, hk, hm => by
    have q : ((m + 1 : Nat) : Int) > 0 := by omega
    have w1 : IntKind.wrap .i64 ((most : Int) + 2) = ((most + 2 : Nat) : Int) := by rw [← wrapN (n := most + 2) (by omega)]; rfl
    have hp : 2 ^ (k + 1) ≤ 2 ^ 60 := Nat.pow_le_pow_right (by omega) hk
    have w2 : IntKind.wrap .i64 (Int.tdiv ((m + 1 : Nat) : Int) 2) = (((m + 1) / 2 : Nat) : Int) := by
      rw [show Int.tdiv ((m + 1 : Nat) : Int) 2 = (((m + 1) / 2 : Nat) : Int) from rfl]
      exact wrapN (by omega)
    obtain ⟨r, e, h1, h2⟩ := most_loop st k ((m + 1) / 2) (most + 2) (by rw [Nat.pow_succ] at h; omega) (by omega) (by omega)
    refine ⟨r, ?_, by omega, fun j hj => ?_⟩
    · rw [loopO_inl (s' := ([.int .i64 ((most + 2 : Nat) : Int), .int .i64 (((m + 1) / 2 : Nat) : Int)], st)), e]
      simp only [g36_L1, unc_cons, asI_int, un0_nil, ifB_decide, if_pos q, letV_eq, w1, w2]
    · match j, hj with
      | 0, _ => omega
      | 1, _ => omega
      | j + 2, hj =>
        have : 2 ^ (j + 1) ≤ 2 * ((m + 1) / 2) := by
          rw [Nat.pow_succ, Nat.pow_succ] at hj
          rw [Nat.pow_succ]; omega
        have := h2 (j + 1) this
        omega
theorem most_ok {n : Nat} (h : n ≤ 1000000) : ∃ r : Nat, (orc vE).bare 36 [.int .i64 (n : Int)] = some (.int .i64 (r : Int)) ∧ 2 ≤ r ∧ ∀ j, 2 ^ j ≤ 2 * n → 2 + 2 * j ≤ r := by
  obtain ⟨r, e, h1, h2⟩ := most_loop (St.mk 0 0 Tr.leaf) 20 n 2 (by omega) (by omega) (by omega)
  refine ⟨r, bare_of rfl ((g36_eq _).trans ?_), h1, h2⟩
  have e : loopO g36_L1 ([.int .i64 2, .int .i64 (n : Int)], St.mk 0 0 Tr.leaf) = _ := e
  simp only [g36, asI_int]
  rw [e]
  simp only [bindO_ok, unc_cons, asI_int, un0_nil]
theorem depth_most {t : T} (w : WF t) {r : Nat} (h : ∀ j, 2 ^ j ≤ 2 * t.size → 2 + 2 * j ≤ r) : t.depth ≤ r := by
  cases hn : t.isNil with
  | true => rw [nil_of hn]; simp [T.depth]
  | false =>
    have := h _ (size_depth w hn)
    omega
theorem depth_zero {t : T} (w : WF t) : t.depth = 0 ↔ t.size = 0 := by
  cases hn : t.isNil with
  | true => rw [nil_of hn]; simp [T.depth, T.size]
  | false =>
    have := depth_pos hn
    have := size_pos w hn
    omega
theorem same_ok {t : T} (w : WF t) (hs : t.size ≤ 1000000) : (orc vE).bare 22 [rp t, .agg [.str t.text]] = some (.bool true) := by
  refine bare_of rfl ((g22_eq _ _).trans ?_)
  obtain ⟨r, e, h2, hr⟩ := most_ok hs
  have hd := depth_most w hr
  have e' : ∀ {β : Type} (st : St) (K : Kv β), callS (orc vE) 36 [.int .i64 (t.size : Int)] st K = K (.int .i64 (r : Int)) st q0 := fun st K => callS_bare st K rfl rfl rfl e
  have d0 := depth_zero w
  have q1 : (((t.depth : Int) == 0) == ((t.size : Int) == 0)) = true := by
    by_cases h : t.depth = 0
    · have := d0.1 h; simp [h, this]
    · have : ¬ t.size = 0 := fun k => h (d0.2 k)
      rw [beq_false_of_ne (show (t.depth : Int) ≠ 0 by omega), beq_false_of_ne (show (t.size : Int) ≠ 0 by omega)]; rfl
  have q2 : (t.depth : Int) ≥ 0 := by omega
  have q3 : (t.depth : Int) ≤ (r : Int) := by omega
  simp only [g22, unA_agg, unc_cons, asS_str, un0_nil, call_depth, asI_int, call_len, size_text, apart_kept, apart_kept2, Bool.and_self, chk_true, beq_self_eq_true, ifB_true, call_string (show t.size ≤ 100000000 by omega), call_ends, call_ends_ref (show t.text.length ≤ 1000000 by rw [size_text]; omega), ends_text, q1, ifB_decide, if_pos q2, e', decide_eq_true q3, bindO_ok, asB_bool]
theorem call_same {β : Type} {t : T} (w : WF t) (hs : t.size ≤ 1000000) {s : List UInt8} (h : t.text = s) (st : St) (K : Kv β) : callS (orc vE) 22 [rp t, .agg [.str s]] st K = K (.bool true) st q0 := by
  subst h
  exact callS_bare st K rfl rfl rfl (same_ok w hs)
end Go.Proofs.Ytdfofconhfhgdaa.Vm
/- RopeKept: what the law's shallow form tells. -/
set_option maxRecDepth 100000
set_option linter.unusedSimpArgs false
namespace Go.Proofs.Ytdfofconhfhgdaa.Vm
open Go Go.VM Go.Proofs
open T

theorem works_ok : (orc vE).bare 7 [] = some (.bool true) := by
  have h : isTrue ((caller vE 60).bare 7 []) = true := by kernel_rfl
  exact orc_bare (isTrue_ok h)
theorem call_works {β : Type} (st : St) (K : Kv β) : callS (orc vE) 7 [] st K = K (.bool true) st q0 := callS_bare st K rfl rfl rfl works_ok
theorem call_rep {β : Type} {t : T} {x y : Int} {s : List UInt8} {r : AV} (h : (orc vE).bare 9 [rp t, spV x y, .str s] = some r) (st : St) (K : Kv β) : callS (orc vE) 9 [rp t, .agg [.int .i64 x, .int .i64 y], .str s] st K = K r st q0 := callS_bare st K rfl rfl rfl h
theorem call_slice {β : Type} {t : T} {x y : Int} {r : AV} (h : (orc vE).bare 12 [rp t, spV x y] = some r) (st : St) (K : Kv β) : callS (orc vE) 12 [rp t, .agg [.int .i64 x, .int .i64 y]] st K = K r st q0 := callS_bare st K rfl rfl rfl h
theorem put_app (a b c r : List UInt8) {x y : Int} (hx : x = (a.length : Int)) (hy : y = (a.length : Int) + b.length) : putT (a ++ (b ++ c)) x y r = a ++ (r ++ c) := by
  subst hx hy
  have e : ((a.length : Int) + b.length).toNat = a.length + b.length := by omega
  simp only [putT, Int.toNat_natCast, e, List.take_left', List.append_assoc]
  congr 2
  rw [← List.drop_drop, List.drop_left' rfl, List.drop_left' rfl]
/-- A text in three pieces. -/
theorem three (s : List UInt8) {i j : Nat} (h : i ≤ j) (hj : j ≤ s.length) : ∃ a b c, s = a ++ (b ++ c) ∧ a.length = i ∧ b.length = j - i ∧ (s.take j).drop i = b := by
  refine ⟨s.take i, (s.take j).drop i, s.drop j, ?_, ?_, ?_, rfl⟩
  · rw [← List.append_assoc]
    have : s.take i ++ (s.take j).drop i = s.take j := by
      have e : s.take i = (s.take j).take i := by rw [List.take_take, Nat.min_eq_left h]
      rw [e, List.take_append_drop]
    rw [this, List.take_append_drop]
  · rw [List.length_take]; omega
  · rw [List.length_drop, List.length_take]; omega
theorem put_back {s r : List UInt8} {i j : Nat} (h : i ≤ j) (hj : j ≤ s.length) : putT (putT s i j r) i ((i : Int) + r.length) ((s.take j).drop i) = s := by
  obtain ⟨a, b, c, e, h1, h2, h3⟩ := three s h hj
  rw [h3, e, put_app a b c r (by omega) (by omega), put_app a r c b (by omega) (by omega)]
theorem put_len {s r : List UInt8} {i j : Nat} (h : i ≤ j) (hj : j ≤ s.length) : (putT s i j r).length = s.length - (j - i) + r.length := by
  obtain ⟨a, b, c, e, h1, h2, h3⟩ := three s h hj
  rw [e, put_app a b c r (by omega) (by omega)]
  simp only [List.length_append]; omega
theorem put_swap {s p q : List UInt8} {i j k l : Nat} (h1 : i ≤ j) (h2 : j ≤ k) (h3 : k ≤ l) (h4 : l ≤ s.length) :
    putT (putT s i j p) ((k : Int) + ((p.length : Int) - ((j : Int) - i))) ((l : Int) + ((p.length : Int) - ((j : Int) - i))) q = putT (putT s k l q) i j p := by
  obtain ⟨a, b, c, e, k1, k2, k3⟩ := three s h1 (by omega)
  have hc : c.length = s.length - j := by
    have := congrArg List.length e
    simp only [List.length_append] at this; omega
  obtain ⟨d, f, g, e2, m1, m2, m3⟩ := three c (i := k - j) (j := l - j) (by omega) (by omega)
  rw [e, put_app a b c p (by omega) (by omega), e2]
  rw [show a ++ (p ++ (d ++ (f ++ g))) = (a ++ p ++ d) ++ (f ++ g) by simp only [List.append_assoc], put_app (a ++ p ++ d) f g q (by simp only [List.length_append]; omega) (by simp only [List.length_append]; omega)]
  rw [show a ++ (b ++ (d ++ (f ++ g))) = (a ++ b ++ d) ++ (f ++ g) by simp only [List.append_assoc], put_app (a ++ b ++ d) f g q (by simp only [List.length_append]; omega) (by simp only [List.length_append]; omega)]
  rw [show a ++ b ++ d ++ (q ++ g) = a ++ (b ++ (d ++ (q ++ g))) by simp only [List.append_assoc], put_app a b _ p (by omega) (by omega)]
  simp only [List.append_assoc]
theorem isS_of {n i j : Nat} (h1 : i ≤ j) (h2 : j ≤ n) : isS n i j = true := by
  simp only [isS, decide_eq_true_eq]; omega
theorem roomT_of {n : Nat} {x y : Int} {k : Nat} (h : (n : Int) - (y - x) + k ≤ 65536) : roomT n x y k = true := decide_eq_true h
theorem law_kept (s a b : List UInt8) (x0 x1 y0 y1 : Int) : (orc vE).bare 3 [.str s, spV x0 x1, spV y0 y1, .str a, .str b] = some (.bool true) := by
  refine bare_of rfl ((g3_eq _ _ _ _ _).trans ?_)
  simp only [g3, spV, asS_str, unA_agg, unc_cons, asI_int, un0_nil, call_works, asB_bool, Bool.not_true, ifB_false, ifB_decide]
  by_cases c1 : (s.length : Int) > 5000
  · simp only [if_pos c1, bindO_ok, unc_cons, asB_bool, un0_nil, ifB_true]
  by_cases c2 : (a.length : Int) > 3000
  · simp only [if_neg c1, if_pos c2, bindO_ok, unc_cons, asB_bool, un0_nil, ifB_true]
  by_cases c3 : (b.length : Int) > 3000
  · simp only [if_neg c1, if_neg c2, bindO_ok, unc_cons, asB_bool, un0_nil, ifB_decide, if_pos c3]
  obtain ⟨t, et, wt, tt⟩ := rof_ok (s := s) (by omega)
  have st : t.size = s.length := by rw [← size_text, tt]
  have et' : ∀ {β : Type} (st : St) (K : Kv β), callS (orc vE) 8 [.str s] st K = K (.tup [rp t, .int .i64 0]) st q0 := fun st K => callS_bare st K rfl rfl rfl et
  have ht : ∀ {β : Type} (st : St) (K : Kv β), callS (orc vE) 11 [rp t] st K = K (.str s) st q0 := fun st K => by rw [call_string (by omega), tt]
  simp only [if_neg c1, if_neg c2, bindO_ok, unc_cons, asB_bool, un0_nil, ifB_decide, if_neg c3, et', unT_tup, nthS_zero, nthS_one, asI_int, ifB_bne, if_true, call_is]
  cases hx : isS s.length x0 x1 with
  | false =>
    have e := replace_no (t := t) a (by rw [st]; exact hx)
    simp only [call_rep e, unT_tup, nthS_zero, nthS_one, asI_int, asB_bool]
    simp only [show (!((1 : Int) == 0) == false) = false from rfl, ifB_false, nil_nil, ifB_true, ht, asS_str, beq_self_eq_true, bindO_ok, unc_cons, asB_bool, un0_nil]
    rfl
  | true =>
    obtain ⟨i, j, rfl, rfl, h1, h2⟩ := isS_nat hx
    obtain ⟨u, eu, wu, tu, su⟩ := replace_yes (s := a) wt (by omega) (by rw [st]; exact hx) (roomT_of (by omega))
    rw [tt] at tu
    have lu : u.size = s.length - (j - i) + a.length := by rw [← size_text, tu, put_len h1 h2]
    have esl := slice_ok wt (by omega) (i : Int) (j : Int)
    rw [st, hx, tt] at esl
    simp only [if_true, Int.toNat_natCast] at esl
    have w1 : IntKind.wrap .i64 ((i : Int) + (a.length : Int)) = (i : Int) + (a.length : Int) := wrap_i64 (by omega) (by omega)
    have hold : ((s.take j).drop i).length = j - i := by rw [List.length_drop, List.length_take]; omega
    have hback : isS u.size (i : Int) ((i : Int) + a.length) = true := by simp only [isS, decide_eq_true_eq]; omega
    obtain ⟨v, ev, wv, tv, sv⟩ := replace_yes (s := (s.take j).drop i) wu (by omega) hback (roomT_of (by omega))
    rw [tu, put_back h1 h2] at tv
    have hv : ∀ {β : Type} (st : St) (K : Kv β), callS (orc vE) 11 [rp v] st K = K (.str s) st q0 := fun st K => by rw [call_string (by omega), tv]
    have hu : ∀ {β : Type} (st : St) (K : Kv β), callS (orc vE) 11 [rp u] st K = K (.str (putT s i j a)) st q0 := fun st K => by rw [call_string (by omega), tu]
    have hp := fun {β : Type} (st : St) (K : Kv β) => call_put (r := a) hx (by omega) (by omega) st K
    simp only [call_rep eu, unT_tup, nthS_zero, nthS_one, asI_int, asB_bool, show (!((0 : Int) == 0) == true) = false from rfl, ifB_false, ifB_bne, if_true, call_slice esl, asS_str, letV_eq, w1, call_sp, unA_agg, unc_cons, un0_nil, call_rep ev, hv, apart_kept, apart_kept2, Bool.and_self, chk_true, beq_self_eq_true, Bool.not_true, hu, hp, ht, bindO_ok, call_is]
    cases hy : isS s.length y0 y1 with
    | false => simp only [Bool.not_false, ifB_true, bindO_ok, unc_cons, asB_bool, un0_nil]
    | true =>
      obtain ⟨k, l, rfl, rfl, h3, h4⟩ := isS_nat hy
      simp only [Bool.not_true, ifB_false, bindO_ok, unc_cons, asB_bool, un0_nil, ifB_decide]
      by_cases c4 : (j : Int) > (k : Int)
      · rw [if_pos c4]
      rw [if_neg c4]
      have w2 : IntKind.wrap .i64 ((j : Int) - (i : Int)) = (j : Int) - (i : Int) := wrap_i64 (by omega) (by omega)
      have w3 : IntKind.wrap .i64 ((a.length : Int) - ((j : Int) - (i : Int))) = (a.length : Int) - ((j : Int) - (i : Int)) := wrap_i64 (by omega) (by omega)
      have w4 : IntKind.wrap .i64 ((k : Int) + ((a.length : Int) - ((j : Int) - (i : Int)))) = (k : Int) + ((a.length : Int) - ((j : Int) - (i : Int))) := wrap_i64 (by omega) (by omega)
      have w5 : IntKind.wrap .i64 ((l : Int) + ((a.length : Int) - ((j : Int) - (i : Int)))) = (l : Int) + ((a.length : Int) - ((j : Int) - (i : Int))) := wrap_i64 (by omega) (by omega)
      have hone : isS u.size ((k : Int) + ((a.length : Int) - ((j : Int) - (i : Int)))) ((l : Int) + ((a.length : Int) - ((j : Int) - (i : Int)))) = true := by simp only [isS, decide_eq_true_eq]; omega
      obtain ⟨o, eo, wo, to, so⟩ := replace_yes (s := b) wu (by omega) hone (roomT_of (by omega))
      obtain ⟨q, eq, wq, tq, sq⟩ := replace_yes (s := b) wt (by omega) (show isS t.size (k : Int) (l : Int) = true by rw [st]; exact hy) (roomT_of (by omega))
      rw [tt] at tq
      have lq : q.size = s.length - (l - k) + b.length := by rw [← size_text, tq, put_len h3 h4]
      obtain ⟨z, ez, wz, tz, sz⟩ := replace_yes (s := a) wq (by omega) (show isS q.size (i : Int) (j : Int) = true from isS_of h1 (by omega)) (roomT_of (by omega))
      have hoz : o.text = z.text := by rw [to, tu, tz, tq, put_swap h1 (by omega) h3 h4]
      have ho := fun {β : Type} (st : St) (K : Kv β) => call_string (t := o) (by omega) st K
      have hz := fun {β : Type} (st : St) (K : Kv β) => call_string (t := z) (by omega) st K
      simp only [letV_eq, w2, w3, w4, w5, call_sp, unA_agg, unc_cons, asI_int, un0_nil, call_rep eo, unT_tup, nthS_zero, nthS_one, call_rep eq, ifB_bne, if_true, bindO_ok, asB_bool, show ((0 : Int) != 0) = false from rfl, ifB_false, call_rep ez, ifB_beq, ho, asS_str, hz, hoz, beq_self_eq_true, ifB_true, ht]
end Go.Proofs.Ytdfofconhfhgdaa.Vm
/- RopeLines: what the law's shallow form tells. -/
set_option maxRecDepth 100000
set_option linter.unusedSimpArgs false
namespace Go.Proofs.Ytdfofconhfhgdaa.Vm
open Go Go.VM Go.Proofs
open T

theorem lineR_ok (s : List UInt8) {i : Nat} (h : i ≤ s.count 10) : ∃ p : Nat, lineR s (i : Int) = ((p : Int), 0) ∧ p ≤ s.length ∧ (s.take p).count 10 = i ∧ (i = 0 → p = 0) ∧ (0 < i → 1 ≤ p ∧ s[p - 1]? = some 10) := by
  by_cases hi : i = 0
  · subst hi; exact ⟨0, rfl, by omega, by simp, fun _ => rfl, fun h => by omega⟩
  · obtain ⟨p, e, p1, p2, p3, p4⟩ := lineP_some s i (by omega) h
    refine ⟨p, ?_, p2, p3, fun h => absurd h hi, fun _ => ⟨p1, p4⟩⟩
    have c1 : ¬ (i : Int) = 0 := by omega
    have c2 : ¬ (i : Int) < 0 := by omega
    unfold lineR
    rw [if_neg c1, if_neg c2, Int.toNat_natCast, e]
theorem take_count_mono (s : List UInt8) {a b : Nat} (h : a ≤ b) : (s.take a).count 10 ≤ (s.take b).count 10 := by
  have : s.take a = (s.take b).take a := by rw [List.take_take, Nat.min_eq_left h]
  rw [this]
  exact List.Sublist.count_le _ (List.take_sublist _ _)
theorem take_count_step (s : List UInt8) {p : Nat} (h1 : 1 ≤ p) (h : s[p - 1]? = some 10) : (s.take p).count 10 = (s.take (p - 1)).count 10 + 1 := by
  obtain ⟨q, rfl⟩ : ∃ q, p = q + 1 := ⟨p - 1, by omega⟩
  rw [Nat.add_sub_cancel] at h ⊢
  rw [List.take_add_one, h]
  simp
theorem lines_loop {s : List UInt8} {t : T} (w : WF t) (tt : t.text = s) (hs : s.length ≤ 1000000) (st : St) : ∀ (n i : Nat) (last : Int), n + i = s.count 10 + 1 → (∀ p : Nat, lineR s (i : Int) = ((p : Int), 0) → i ≤ s.count 10 → last < (p : Int)) →
    loopO (g4_L1 s (rp t)) ([.bool false, .int .i64 last, .int .i64 (i : Int)], st) = some (0, [.bool false], st)
  | 0, i, last, hn, _ => by
    have q : ¬ (i : Int) ≤ (t.ends : Int) := by rw [← ends_text, tt]; omega
    refine loopO_inr ?_
    simp only [g4_L1, unc_cons, asB_bool, asI_int, un0_nil, call_ends, ifB_decide, if_neg q]
  | n + 1, i, last, hn, hl => by
    have hi : i ≤ s.count 10 := by omega
    have hc := s.count_le_length (a := 10)
    have sz : t.size = s.length := by rw [← size_text, tt]
    have q : (i : Int) ≤ (t.ends : Int) := by rw [← ends_text, tt]; omega
    obtain ⟨p, e, p1, p2, p3, p4⟩ := lineR_ok s hi
    have hlast := hl p e hi
    have e1 := line_ok w (by omega) (i : Int)
    rw [tt, e] at e1
    have e1' : ∀ {β : Type} (st : St) (K : Kv β), callS (orc vE) 16 [rp t, .int .i64 (i : Int)] st K = K (.tup [.int .i64 (p : Int), .int .i64 0]) st q0 := fun st K => callS_bare st K rfl rfl rfl e1
    have e2 := ahead_ok w (by omega) (p : Int)
    have e3 : aheadR t.text (p : Int) = ((i : Int), 0) := by
      unfold aheadR
      rw [tt, if_neg (by omega), Int.toNat_natCast, p2]
    rw [e3] at e2
    have e2' : ∀ {β : Type} (st : St) (K : Kv β), callS (orc vE) 17 [rp t, .int .i64 (p : Int)] st K = K (.tup [.int .i64 (i : Int), .int .i64 0]) st q0 := fun st K => callS_bare st K rfl rfl rfl e2
    have q1 : ¬ (p : Int) ≤ last := by omega
    have q2 : ¬ (p : Int) > (s.length : Int) := by omega
    have w1 : IntKind.wrap .i64 ((i : Int) + 1) = ((i + 1 : Nat) : Int) := by rw [← wrapN (n := i + 1) (by omega)]; rfl
    have ih := lines_loop w tt hs st n (i + 1) (p : Int) (by omega) (fun p' e' h' => by
      obtain ⟨p'', f, f1, f2, _, _⟩ := lineR_ok s h'
      rw [f] at e'
      have : p'' = p' := by
        have e' : ((p'' : Int), (0 : Int)) = ((p' : Int), 0) := e'
        have : (p'' : Int) = (p' : Int) := congrArg Prod.fst e'
        omega
      subst this
      rcases Nat.lt_or_ge p p'' with h | h
      · omega
      · have := take_count_mono s h
        omega)
    rw [loopO_inl (s' := ([.bool false, .int .i64 (p : Int), .int .i64 ((i + 1 : Nat) : Int)], st)), ih]
    by_cases h0 : i = 0
    · have q3 : ¬ (i : Int) > 0 := by omega
      simp only [g4_L1, unc_cons, asB_bool, asI_int, un0_nil, call_ends, ifB_decide, if_pos q, e1', unT_tup, nthS_zero, nthS_one, e2', ifB_bne, if_true, if_neg q1, if_neg q2, if_neg q3, bindO_ok, ifB_false, letV_eq, w1]
    · have q3 : (i : Int) > 0 := by omega
      obtain ⟨p5, p6⟩ := p4 (by omega)
      have w2 : IntKind.wrap .i64 ((p : Int) - 1) = ((p - 1 : Nat) : Int) := by rw [← wrapN (n := p - 1) (by omega)]; congr 1; omega
      obtain ⟨hlt, hg⟩ := List.getElem?_eq_some_iff.1 p6
      have hx : ∀ {β : Type} (K : UInt8 → Option β), idxStr s ((p - 1 : Nat) : Int) K = K 10 := fun K => by rw [idxStr_nat hlt, hg]
      have z : (((UInt8.toNat (10 : UInt8) : Nat) : Int) != 10) = false := rfl
      simp only [g4_L1, unc_cons, asB_bool, asI_int, un0_nil, call_ends, ifB_decide, if_pos q, e1', unT_tup, nthS_zero, nthS_one, e2', ifB_bne, if_true, if_neg q1, if_neg q2, if_pos q3, letV_eq, w2, hx, z, bindO_ok, ifB_false, w1]
theorem law_lines (s : List UInt8) (n : Int) : (orc vE).bare 4 [.str s, .int .i64 n] = some (.bool true) := by
  refine bare_of rfl ((g4_eq _ _).trans ?_)
  simp only [g4, asS_str, asI_int, call_works, asB_bool, Bool.not_true, ifB_false]
  by_cases c1 : (s.length : Int) > 3000
  · simp only [bindO_ok, unc_cons, asB_bool, un0_nil, ifB_decide, if_pos c1]
  obtain ⟨t, et, wt, tt⟩ := rof_ok (s := s) (by omega)
  have sz : t.size = s.length := by rw [← size_text, tt]
  have et' : ∀ {β : Type} (st : St) (K : Kv β), callS (orc vE) 8 [.str s] st K = K (.tup [rp t, .int .i64 0]) st q0 := fun st K => callS_bare st K rfl rfl rfl et
  have hl : loopO (g4_L1 s (rp t)) ([.bool false, .int .i64 (-1), .int .i64 0], St.mk 0 0 Tr.leaf) = _ := lines_loop wt tt (by omega) (St.mk 0 0 Tr.leaf) (s.count 10 + 1) 0 (-1) (by omega) (fun p _ _ => by omega)
  simp only [bindO_ok, unc_cons, asB_bool, un0_nil, ifB_decide, if_neg c1, et', unT_tup, nthS_zero, nthS_one, asI_int, ifB_bne, if_true]
  rw [hl]
  simp only [bindO_ok, unc_cons, asB_bool, un0_nil, sel2_zero]
  have e2 := ahead_ok wt (by omega) n
  rw [tt] at e2
  have e2' : ∀ {β : Type} (st : St) (K : Kv β), callS (orc vE) 17 [rp t, .int .i64 n] st K = K (.tup [.int .i64 (aheadR s n).1, .int .i64 (aheadR s n).2]) st q0 := fun st K => callS_bare st K rfl rfl rfl e2
  simp only [e2', unT_tup, nthS_zero, nthS_one, asI_int]
  by_cases c2 : n < 0 ∨ n > (s.length : Int)
  · have : aheadR s n = (0, 1) := by unfold aheadR; rw [if_pos c2]
    rw [this]
    by_cases c3 : n < 0
    · simp only [ifB_decide, if_pos c3, bindO_ok, unc_cons, asB_bool, un0_nil]; rfl
    · simp only [ifB_decide, if_neg c3, bindO_ok, unc_cons, asB_bool, un0_nil]
      rw [show decide (n > (s.length : Int)) = true from decide_eq_true (by omega)]; rfl
  · obtain ⟨m, rfl⟩ := Int.eq_ofNat_of_zero_le (show 0 ≤ n by omega)
    have : aheadR s (m : Int) = ((((s.take m).count 10 : Nat) : Int), 0) := by unfold aheadR; rw [if_neg c2]; rfl
    rw [this]
    have hk : (s.take m).count 10 ≤ s.count 10 := List.Sublist.count_le _ (List.take_sublist _ _)
    obtain ⟨p, e, p1, p2, p3, p4⟩ := lineR_ok s hk
    have hp : p ≤ m := by
      by_cases h0 : (s.take m).count 10 = 0
      · have := p3 h0; omega
      · obtain ⟨p5, p6⟩ := p4 (by omega)
        rcases Nat.lt_or_ge m p with h | h
        · have h1 := take_count_step s p5 p6
          have h2 := take_count_mono s (show m ≤ p - 1 by omega)
          omega
        · exact h
    have e1 := line_ok wt (by omega) (((s.take m).count 10 : Nat) : Int)
    rw [tt, e] at e1
    have e1' : ∀ {β : Type} (st : St) (K : Kv β), callS (orc vE) 16 [rp t, .int .i64 (((s.take m).count 10 : Nat) : Int)] st K = K (.tup [.int .i64 (p : Int), .int .i64 0]) st q0 := fun st K => callS_bare st K rfl rfl rfl e1
    have q : (p : Int) ≤ (m : Int) := by omega
    simp only [ifB_bne, if_true, e1', unT_tup, nthS_zero, nthS_one, asI_int, ifB_beq, decide_eq_true q, bindO_ok, unc_cons, asB_bool, un0_nil]
end Go.Proofs.Ytdfofconhfhgdaa.Vm
/- Ropes: arguments. -/
set_option maxRecDepth 100000
set_option linter.unusedSimpArgs false
namespace Go.Proofs.Ytdfofconhfhgdaa.Vm
open Go Go.VM Go.Proofs

def lawS : List TypeId := [9, 23, 3, 42, 51, 5]
theorem lawS_ok : ∀ t, inS lawS t = true → okTy Try.prog lawS t = true := by
  intro t ht
  have : t ∈ lawS := by
    obtain ⟨u, hu, e⟩ := List.any_eq_true.1 ht
    rw [← Nat.eq_of_beq_eq_true e]; exact hu
  exact List.all_eq_true.1 (show (lawS.all fun t => okTy Try.prog lawS t) = true by kernel_rfl) t this
theorem av_int {n t : Nat} {k : IntKind} {cs : List AV} (hu : Try.prog.underlying t = some (.int k)) (h : AvOf Try.prog n t cs) : ∃ m, cs = [.int k m] ∧ k.min ≤ m ∧ m ≤ k.max := by
  cases n with
  | zero => cases h
  | succ n => simp only [AvOf, hu] at h; exact h
theorem av_str {n t : Nat} {cs : List AV} (hu : Try.prog.underlying t = some .string) (h : AvOf Try.prog n t cs) : ∃ s, cs = [.str s] ∧ s.length ≤ maxLen := by
  cases n with
  | zero => cases h
  | succ n => simp only [AvOf, hu] at h; exact h
theorem sl_of {n t e : Nat} {cs : List AV} {Q : AV → Prop} (hu : Try.prog.underlying t = some (.slice e)) (h : AvOf Try.prog n t cs) (hQ : ∀ a, AvOf Try.prog (n - 1) e a → Q (mkV (isSt Try.prog e) a)) :
    ∃ x es, cs = [x] ∧ IsSl (Try.prog.cellsOf e) x es ∧ ∀ v ∈ es, Q v := by
  cases n with
  | zero => cases h
  | succ n =>
    simp only [AvOf, hu] at h
    rcases h with rfl | rfl | ⟨L, rfl, hl, hL⟩
    · exact ⟨_, [], rfl, IsSl.nils, by simp⟩
    · exact ⟨_, [], rfl, IsSl.emp, by simp⟩
    · refine ⟨_, _, rfl, IsSl.wide (by rw [List.length_map]; simpa [maxLen] using hl), fun v hv => ?_⟩
      obtain ⟨a, ha, rfl⟩ := List.mem_map.1 hv
      exact hQ a (hL a ha)
theorem span_of {n : Nat} {cs : List AV} (h : AvOf Try.prog n 23 cs) : ∃ x y, cs = [.int .i64 x, .int .i64 y] := by
  cases n with
  | zero => cases h
  | succ n =>
    simp only [AvOf, Try.underlying23] at h
    obtain ⟨a0, b0, rfl, h0, a1, b1, rfl, h1, rfl⟩ := h
    obtain ⟨x, rfl, _⟩ := av_int Try.underlying3 h0
    obtain ⟨y, rfl, _⟩ := av_int Try.underlying3 h1
    exact ⟨x, y, rfl⟩
/-- A step. -/
structure Step where
  k : Int
  i : Int
  x : Int
  y : Int
  s : List UInt8
  n : Int
def Step.enc (p : Step) : AV := .agg [.int .u8 p.k, .int .i64 p.i, .int .i64 p.x, .int .i64 p.y, .str p.s, .int .i64 p.n]
def Step.ok (p : Step) : Prop := p.n ≤ 9223372036854775807
theorem step_of {n : Nat} {cs : List AV} (h : AvOf Try.prog n 51 cs) : ∃ p : Step, .agg cs = p.enc ∧ p.ok := by
  cases n with
  | zero => cases h
  | succ n =>
    simp only [AvOf, Try.underlying51] at h
    obtain ⟨a0, b0, rfl, h0, a1, b1, rfl, h1, a2, b2, rfl, h2, a3, b3, rfl, h3, a4, b4, rfl, h4, rfl⟩ := h
    obtain ⟨k, rfl, _⟩ := av_int Try.underlying5 h0
    obtain ⟨i, rfl, _⟩ := av_int Try.underlying3 h1
    obtain ⟨x, y, rfl⟩ := span_of h2
    obtain ⟨s, rfl, _⟩ := av_str Try.underlying9 h3
    obtain ⟨m, rfl, _, hm⟩ := av_int Try.underlying3 h4
    exact ⟨⟨k, i, x, y, s, m⟩, rfl, hm⟩
theorem steps_of : ∀ {es : List AV}, (∀ v ∈ es, ∃ p : Step, v = p.enc ∧ p.ok) → ∃ ps : List Step, es = ps.map Step.enc ∧ ∀ p ∈ ps, p.ok
  | [], _ => ⟨[], rfl, by simp⟩
  | v :: vs, h => by
    obtain ⟨p, hp, hk⟩ := h v (by simp)
    obtain ⟨ps, hps, hks⟩ := steps_of (es := vs) fun u hu => h u (List.mem_cons_of_mem _ hu)
    refine ⟨p :: ps, by rw [hp, hps]; rfl, fun q hq => ?_⟩
    rcases List.mem_cons.1 hq with rfl | hq
    · exact hk
    · exact hks q hq
end Go.Proofs.Ytdfofconhfhgdaa.Vm
/- Slices that own their ends, side by side; a local variable of one cell. -/
set_option maxRecDepth 100000
set_option linter.unusedSimpArgs false
namespace Go.Proofs.Ytdfofconhfhgdaa.Vm
open Go Go.VM Go.Proofs
open T

theorem own_keep {st st' : St} {z : Nat} {e : TypeId} {v : AV} {es : List AV} {but : Nat → Prop} (h : Own st z e v es) (k : Keeps st st' but) (hb : ∀ j, ownerOf v j → ¬ but j) : Own st' z e v es := by
  refine ⟨by rw [k.ro]; exact Nat.le_trans h.1 k.h, h.2.1, ?_⟩
  rcases h.2.2 with h | h | ⟨j, hv, hg, hr⟩
  · exact .inl h
  · exact .inr (.inl h)
  · exact .inr (.inr ⟨j, hv, k.old _ _ (hb j ⟨_, _, hv⟩) hg, by rw [k.ro]; exact hr⟩)
theorem own_two {st : St} {z z' : Nat} {e e' : TypeId} {v v' : AV} {es es' : List AV} (h : Own st z e v es) (h' : Own st z' e' v' es') (hne : e ≠ e') : ∀ j, ownerOf v j → ¬ ownerOf v' j := by
  rintro j ⟨y, l, rfl⟩ ⟨y', l', rfl⟩
  rcases h with ⟨_, _, ⟨h | h, _⟩ | h | ⟨k, h, hg, _⟩⟩
  · cases h
  · cases h
  · cases h
  · cases h
    rcases h' with ⟨_, _, ⟨h' | h', _⟩ | h' | ⟨k, h', hg', _⟩⟩
    · cases h'
    · cases h'
    · cases h'
    · cases h'
      rw [hg] at hg'
      simp only [Except.ok.injEq, VM.Obj.tok.injEq] at hg'
      exact hne hg'.2
theorem own_idx {st : St} {z : Nat} {e : TypeId} {x : AV} {es : List AV} (h : Own st z e x es) {k : Nat} {v : AV} (hk : es[k]? = some v) {β : Type} (st' : St) (K : AV → List Nat → Option β) : idxA z x (k : Int) st' K = K (.ip v.cells) [] := by
  have hlt : k < es.length := (List.getElem?_eq_some_iff.1 hk).1
  have hz : z.beq z = true := Nat.beq_refl z
  have hi : insideO (k : Int) es.length = some k := by
    show (match k.blt es.length with | true => some k | false => none) = _
    rw [blt_true.2 hlt]
  have hn : nthO es k = some v := nthO_of hk
  rcases h.2.2 with ⟨rfl | rfl, rfl⟩ | rfl | ⟨j, rfl, _⟩
  · simp at hlt
  · simp at hlt
  · simp only [idxA, idxO, hz, hi, hn, bindO_ok]
  · simp only [idxA, idxO, hz, hi, hn, bindO_ok]
theorem own_len {st : St} {z : Nat} {e : TypeId} {x : AV} {es : List AV} (h : Own st z e x es) {β : Type} (K : Nat → Option β) : lenS x K = K es.length := by
  rcases h.2.2 with ⟨rfl | rfl, rfl⟩ | rfl | ⟨k, rfl, _⟩ <;> rfl
theorem own_app {st : St} {z b : Nat} {e : TypeId} {v : AV} {es : List AV} (w : AV) (h : Own st z e v es) (hr : roomOk (es.length + 1) ⟨.other, z, b, [], false, false⟩ = true) :
    ∃ v' st', Own st' z e v' (es ++ [w]) ∧ Keeps st st' (ownerOf v) ∧ ∃ x, ∀ {β : Type} (K : Kv β), appS z b e v [w] st K = K v' st' x := by
  obtain ⟨v', st', x, e1, e2, e3, _⟩ := app_own (b := b) (new := [w]) h (by simp) hr
  exact ⟨v', st', e2, e3, x, fun K => appS_of e1 K⟩
/-- A local variable of one text. -/
theorem var1 (st : St) (hro : st.ro ≤ st.h) (s : List UInt8) : ∃ st', st'.get st.h = .ok (.cells 46 [.str s]) ∧ Keeps st st' (fun _ => False) ∧ st'.ro ≤ st'.h ∧
    ∀ {β : Type} (K : Kv β), storeS (orc vE) 1 (.mp st.h 0) (.agg [.str s]) [.str s] (st.add (.cells 46 [.str []])) K = K VM.undef st' ⟨[st.h], .wrote st.h (.cells 46 [.str s])⟩ := by
  have hg : (st.add (.cells 46 [.str []])).get st.h = .ok (.cells 46 [.str []]) := St.get_add_new
  refine ⟨(st.add (.cells 46 [.str []])).put st.h (.cells 46 [.str s]), St.get_put_same (Nat.lt_succ_self _), ⟨rfl, Nat.le_succ _, fun j o _ hj => ?_⟩, Nat.le_succ_of_le hro, fun K => ?_⟩
  · have hlt := (St.get_ok.1 hj).1
    rw [St.get_put_ne (by omega)]
    exact St.get_add_old hj
  · rw [storeS_at (z := 1) (off := 0) (cs := [.str s]) hg rfl (by simp) hro]; rfl
@[simp] theorem one_rp {β : Type} (t : T) (K : Option β) : asOne (rp t) K = K := id rfl
@[simp] theorem fit_rp {β : Type} (t : T) (K : AV → Option β) : fit1 (rp t) K = K (rp t) := id rfl
@[simp] theorem sizes_one (t : T) : sizesOk 1 [rp t] = true := id rfl
theorem cells_rp (t : T) : AV.cells (rp t) = [rp t] := rfl
theorem cells_tx (s : List UInt8) : AV.cells (.agg [.str s]) = [.str s] := rfl
theorem take_tx (s : List UInt8) : takeO 1 true [.str s] = some (.agg [.str s]) := rfl
theorem take_sp (a b : AV) (l : List AV) : takeO 2 true (a :: b :: l) = some (.agg [a, b]) := rfl
theorem u64_mod (a n : Int) (h0 : 0 < n) (h1 : n ≤ 1000000) : ∃ j : Nat, (j : Int) < n ∧ IntKind.wrap .i64 (Int.tmod (IntKind.wrap .u64 a) (IntKind.wrap .u64 n)) = (j : Int) ∧ ¬ IntKind.wrap .u64 n = 0 := by
  have hu : ∀ a : Int, IntKind.wrap .u64 a = a % (2 ^ 64 : Int) := by
    intro a
    show (if (false && decide (a % (2 ^ 64 : Int) ≥ (2 ^ 63 : Int))) = true then a % (2 ^ 64 : Int) - (2 ^ 64 : Int) else a % (2 ^ 64 : Int)) = _
    simp only [Bool.false_and, Bool.false_eq_true, if_false]
  have hn : IntKind.wrap .u64 n = n := by rw [hu]; omega
  have ha : 0 ≤ IntKind.wrap .u64 a := by rw [hu]; omega
  rw [hn, Int.tmod_eq_emod_of_nonneg ha]
  have h2 := Int.emod_nonneg (IntKind.wrap .u64 a) (show n ≠ 0 by omega)
  have h3 := Int.emod_lt_of_pos (IntKind.wrap .u64 a) h0
  refine ⟨((IntKind.wrap .u64 a) % n).toNat, by omega, ?_, by omega⟩
  rw [wrap_i64 (by omega) (by omega)]
  omega
/-- large. -/
theorem large_loop {x : AV} {es : List AV} {ps : List Step} (hx : IsSl 6 x es) (he : es = ps.map Step.enc) (st : St) : ∀ (k i : Nat) (sum : Int), i + k = 61 → 0 ≤ sum → sum ≤ 3000 * i →
    ∃ b n : Int, (∃ c, loopO (g21_L1 x) ([.bool false, .int .i64 sum, .int .i64 (i : Int)], st) = some (c, [.bool (c == 1), .int .i64 n], st) ∧ (c = 0 ∨ c = 1)) ∧ b = 0
  | 0, i, sum, hi, _, _ => by
    refine ⟨0, sum, ⟨0, loopO_inr ?_, .inl rfl⟩, rfl⟩
    have q2 : ¬ (i : Int) ≤ 60 := by omega
    simp only [g21_L1, unc_cons, asB_bool, asI_int, un0_nil, hx.len, ifB_decide]
    by_cases q : (i : Int) < (es.length : Int)
    · simp only [if_pos q, bindO_ok, unc_cons, asB_bool, un0_nil, ifB_decide, if_neg q2]; rfl
    · simp only [if_neg q, bindO_ok, unc_cons, asB_bool, un0_nil, ifB_false]; rfl
  | k + 1, i, sum, hi, h0, hs => by
    have q2 : (i : Int) ≤ 60 := by omega
    by_cases q : (i : Int) < (es.length : Int)
    · have hlt : i < ps.length := by rw [he, List.length_map] at q; omega
      have hg : es[i]? = some (ps[i]).enc := by rw [he, List.getElem?_map, List.getElem?_eq_getElem hlt]; rfl
      have hidx := fun {β : Type} (st : St) (K : AV → List Nat → Option β) => hx.idx hg st K
      by_cases c : ((ps[i]).s.length : Int) > 3000
      · refine ⟨0, sum, ⟨1, loopO_inr ?_, .inr rfl⟩, rfl⟩
        simp only [g21_L1, unc_cons, asB_bool, asI_int, un0_nil, hx.len, ifB_decide, if_pos q, bindO_ok, if_pos q2, hidx, Step.enc, AV.cells, fldA_ip, drop4, loadS_ip, takeO_one, asS_str, if_pos c]; rfl
      · have w1 : IntKind.wrap .i64 (sum + ((ps[i]).s.length : Int)) = sum + ((ps[i]).s.length : Int) := wrap_i64 (by omega) (by omega)
        have w2 : IntKind.wrap .i64 ((i : Int) + 1) = ((i + 1 : Nat) : Int) := by rw [← wrapN (n := i + 1) (by omega)]; rfl
        obtain ⟨b, n, ⟨c', e, hc'⟩, hb⟩ := large_loop hx he st k (i + 1) (sum + ((ps[i]).s.length : Int)) (by omega) (by omega) (by omega)
        refine ⟨b, n, ⟨c', ?_, hc'⟩, hb⟩
        rw [loopO_inl (s' := ([.bool false, .int .i64 (sum + ((ps[i]).s.length : Int)), .int .i64 ((i + 1 : Nat) : Int)], st)), e]
        simp only [g21_L1, unc_cons, asB_bool, asI_int, un0_nil, hx.len, ifB_decide, if_pos q, bindO_ok, if_pos q2, hidx, Step.enc, AV.cells, fldA_ip, drop4, loadS_ip, takeO_one, asS_str, if_neg c, letV_eq, w1, w2]
    · refine ⟨0, sum, ⟨0, loopO_inr ?_, .inl rfl⟩, rfl⟩
      simp only [g21_L1, unc_cons, asB_bool, asI_int, un0_nil, hx.len, ifB_decide, if_neg q, bindO_ok, ifB_false]; rfl
theorem large_ok (s : List UInt8) {x : AV} {es : List AV} {ps : List Step} (hx : IsSl 6 x es) (he : es = ps.map Step.enc) : ∃ b, (orc vE).bare 21 [.str s, x] = some (.bool b) ∧ (b = false → s.length ≤ 5000 ∧ es.length ≤ 60) := by
  obtain ⟨_, n, ⟨c, e, hc⟩, _⟩ := large_loop hx he (St.mk 0 0 Tr.leaf) 61 0 0 (by omega) (by omega) (by omega)
  have e : loopO (g21_L1 x) ([.bool false, .int .i64 0, .int .i64 0], St.mk 0 0 Tr.leaf) = _ := e
  rcases hc with rfl | rfl
  · by_cases c1 : (es.length : Int) > 60
    · refine ⟨true, bare_of rfl ((g21_eq _ _).trans ?_), fun h => by cases h⟩
      simp only [g21, asS_str]
      rw [e]
      simp only [bindO_ok, unc_cons, asB_bool, asI_int, un0_nil, sel2_zero, hx.len, ifB_decide, if_pos c1]
    · by_cases c2 : (s.length : Int) > 5000
      · refine ⟨true, bare_of rfl ((g21_eq _ _).trans ?_), fun h => by cases h⟩
        simp only [g21, asS_str]
        rw [e]
        simp only [bindO_ok, unc_cons, asB_bool, asI_int, un0_nil, sel2_zero, hx.len, ifB_decide, if_neg c1, if_pos c2]
      · refine ⟨decide (n > 5000), bare_of rfl ((g21_eq _ _).trans ?_), fun _ => by omega⟩
        simp only [g21, asS_str]
        rw [e]
        simp only [bindO_ok, unc_cons, asB_bool, asI_int, un0_nil, sel2_zero, hx.len, ifB_decide, if_neg c1, if_neg c2]
  · refine ⟨true, bare_of rfl ((g21_eq _ _).trans ?_), fun h => by cases h⟩
    simp only [g21, asS_str]
    rw [e]
    simp only [bindO_ok, unc_cons, asB_bool, asI_int, un0_nil, sel2_one]; rfl
end Go.Proofs.Ytdfofconhfhgdaa.Vm
/- RopePlays: what the law's shallow form tells. -/
set_option maxRecDepth 100000
set_option linter.unusedSimpArgs false
namespace Go.Proofs.Ytdfofconhfhgdaa.Vm
open Go Go.VM Go.Proofs
open T

def tx (t : T) : AV := .agg [.str t.text]
structure PInv (st : St) (v w : AV) (ts : List T) : Prop where
  own1 : Own st 1 25 v (ts.map rp)
  own2 : Own st 1 46 w (ts.map tx)
  wf : ∀ t ∈ ts, WF t ∧ t.size ≤ 65536
  ne : ts ≠ []
@[simp] theorem apart_made1 (i : Nat) (o : VM.Obj) : apart q0 ⟨[], .made i o⟩ = true := id rfl
@[simp] theorem apart_made2 (i : Nat) (o : VM.Obj) : apart ⟨[], .kept⟩ ⟨[], .made i o⟩ = true := id rfl
@[simp] theorem apart_wrote1 (i : Nat) (o : VM.Obj) : apart ⟨[], .kept⟩ ⟨[i], .wrote i o⟩ = true := id rfl
theorem nilS_rp {β : Type} (t : T) (K : Bool → Option β) : nilS (.ptr 57) (rp t) .nilp K = K false := rfl
theorem plays_loop {x : AV} {es : List AV} {ps : List Step} (hx : IsSl 6 x es) (he : es = ps.map Step.enc) (hk : ∀ p ∈ ps, p.ok) (hp : ps.length ≤ 60) : ∀ (l : List Step) (i : Nat) (st : St) (v w : AV) (ts : List T), ps.drop i = l → i ≤ ps.length → PInv st v w ts → ts.length ≤ i + 1 →
    ∃ (st' : St) (v' w' : AV) (ts' : List T), loopO (g6_L1 x) ([v, w, .bool false, .int .i64 (i : Int)], st) = some (0, [v', w', .bool false], st') ∧ PInv st' v' w' ts' ∧ ts'.length ≤ 61
  | [], i, st, v, w, ts, hd, hi, hI, hn => by
    have := List.drop_eq_nil_iff.1 hd
    have q : ¬ (i : Int) < (es.length : Int) := by rw [he, List.length_map]; omega
    refine ⟨st, v, w, ts, loopO_inr ?_, hI, by omega⟩
    simp only [g6_L1, unc_cons, asB_bool, asI_int, un0_nil, hx.len, ifB_decide, if_neg q]
  | p :: l, i, st, v, w, ts, hd, hi, hI, hn => by
    obtain ⟨hg0, hr, hlt⟩ := drop_cons hd
    have q : (i : Int) < (es.length : Int) := by rw [he, List.length_map]; omega
    have hg : es[i]? = some p.enc := by rw [he, List.getElem?_map, hg0]; rfl
    have hidx := fun {β : Type} (st : St) (K : AV → List Nat → Option β) => hx.idx hg st K
    have hpm : p ∈ ps := List.mem_of_getElem? hg0
    have hpn : p.n ≤ 9223372036854775807 := hk p hpm
    have lts : 0 < ts.length := List.length_pos_iff.2 hI.ne
    obtain ⟨j, hj, ew, ez⟩ := u64_mod p.i (ts.length : Int) (by omega) (by omega)
    have hjl : j < ts.length := by omega
    have w1 : IntKind.wrap .i64 ((i : Int) + 1) = ((i + 1 : Nat) : Int) := by rw [← wrapN (n := i + 1) (by omega)]; rfl
    obtain ⟨wt, st'⟩ := hI.wf ts[j] (List.getElem_mem hjl)
    have len1 := fun {β : Type} (K : Nat → Option β) => own_len hI.own1 K
    rw [List.length_map] at len1
    have i1 := fun {β : Type} (st' : St) (K : AV → List Nat → Option β) => own_idx hI.own1 (k := j) (v := rp ts[j]) (by rw [List.getElem?_map, List.getElem?_eq_getElem hjl]; rfl) st' K
    have i2 := fun {β : Type} (st' : St) (K : AV → List Nat → Option β) => own_idx hI.own2 (k := j) (v := tx ts[j]) (by rw [List.getElem?_map, List.getElem?_eq_getElem hjl]; rfl) st' K
    simp only [cells_rp] at i1
    simp only [tx, cells_tx] at i2
    have tl : (ts[j]).text.length = (ts[j]).size := size_text _
    generalize ts[j] = t at wt st' i1 i2 tl
    have go : ∀ s', g6_L1 x ([v, w, .bool false, .int .i64 (i : Int)], st) = some (.inl ([v, w, .bool false, .int .i64 ((i + 1 : Nat) : Int)], s')) → s' = st →
        ∃ (st' : St) (v' w' : AV) (ts' : List T), loopO (g6_L1 x) ([v, w, .bool false, .int .i64 (i : Int)], st) = some (0, [v', w', .bool false], st') ∧ PInv st' v' w' ts' ∧ ts'.length ≤ 61 := by
      intro s' e hs
      subst hs
      rw [loopO_inl e]
      exact plays_loop hx he hk hp l (i + 1) s' v w ts hr (by omega) hI (by omega)
    by_cases k0 : p.k = 0
    · have key : ∀ (e : Int) (he0 : e ≠ 0) (h1 : (orc vE).bare 9 [rp t, spV p.x p.y, .str p.s] = some (.tup [.nilp, .int .i64 e])) (h2 : (orc vE).bare 23 [.agg [.str t.text], spV p.x p.y, .str p.s] = some (.tup [.agg [.str []], .int .i64 e])),
          ∃ s', g6_L1 x ([v, w, .bool false, .int .i64 (i : Int)], st) = some (.inl ([v, w, .bool false, .int .i64 ((i + 1 : Nat) : Int)], s')) ∧ Keeps st s' (fun _ => False) := by
        intro e he0 h1 h2
        obtain ⟨s1, g1, k1, r1, ev⟩ := var1 st hI.own1.1 []
        refine ⟨s1, ?_, k1⟩
        have c2 : ∀ {β : Type} (st : St) (K : Kv β), callS (orc vE) 23 [.agg [.str t.text], .agg [.int .i64 p.x, .int .i64 p.y], .str p.s] st K = K (.tup [.agg [.str []], .int .i64 e]) st q0 := fun st K => callS_bare st K rfl rfl rfl h2
        have eb : (e != 0) = true := by rw [bne, beq_false_of_ne he0]; rfl
        simp only [g6_L1, unc_cons, asB_bool, asI_int, un0_nil, hx.len, ifB_decide, if_pos q, hidx, Step.enc, AV.cells, fldA_ip, List.drop_zero, drop2, drop4, drop5, List.drop_succ_cons, loadS_ip, takeO_one, take_sp, bindO_ok, letV_eq, len1, ez, decide_false, Bool.not_false, chk_true, ew, ifB_beq, if_pos k0, i1, i2, unA_agg, asS_str, call_rep h1, unT_tup, nthS_zero, nthS_one, take_tx, c2, letSt_eq, apart_made1, apart_made2, apart_wrote1, Bool.and_self, ev, ifB_bne, if_true, nil_nil, eb, beq_self_eq_true, Bool.not_true, ifB_false, if_neg he0, onSum_inl, w1]
      have fin : ∀ s', g6_L1 x ([v, w, .bool false, .int .i64 (i : Int)], st) = some (.inl ([v, w, .bool false, .int .i64 ((i + 1 : Nat) : Int)], s')) ∧ Keeps st s' (fun _ => False) →
          ∃ (st' : St) (v' w' : AV) (ts' : List T), loopO (g6_L1 x) ([v, w, .bool false, .int .i64 (i : Int)], st) = some (0, [v', w', .bool false], st') ∧ PInv st' v' w' ts' ∧ ts'.length ≤ 61 := by
        rintro s' ⟨e, k⟩
        rw [loopO_inl e]
        exact plays_loop hx he hk hp l (i + 1) s' v w ts hr (by omega) ⟨own_keep hI.own1 k fun _ _ h => h, own_keep hI.own2 k fun _ _ h => h, hI.wf, hI.ne⟩ (by omega)
      have hrr := replace_ref (s := t.text) (r := p.s) p.x p.y (by omega)
      rw [tl] at hrr
      cases h1 : isS t.size p.x p.y with
      | false =>
        rw [h1] at hrr
        obtain ⟨s', h⟩ := key 1 (by omega) (replace_no p.s h1) hrr
        exact fin s' h
      | true =>
        rw [h1] at hrr
        cases h2 : roomT t.size p.x p.y p.s.length with
        | false =>
          rw [h2] at hrr
          obtain ⟨s', h⟩ := key 40 (by omega) (replace_large (by omega) h1 h2) hrr
          exact fin s' h
        | true =>
          rw [h2] at hrr
          obtain ⟨u, eu, wu, tu, su⟩ := replace_yes wt (by omega) h1 h2
          rw [← tu] at hrr
          obtain ⟨s1, g1, k1, r1, ev⟩ := var1 st hI.own1.1 u.text
          have o1 := own_keep hI.own1 k1 fun _ _ h => h
          have o2 := own_keep hI.own2 k1 fun _ _ h => h
          have room : ∀ n b, n ≤ 100 → b ≤ 100 → roomOk n ⟨.other, 1, b, [], false, false⟩ = true := fun n b hn hb => by
            have : n * b ≤ 100 * 100 := Nat.mul_le_mul hn hb
            simp only [roomOk, Nat.ble_eq_true_of_le (show n * b ≤ 70368744177664 by omega), Nat.ble_eq_true_of_le (show n ≤ 70368744177664 by omega)]; rfl
          obtain ⟨v2, s2, o3, k2, x2, a2⟩ := own_app (b := 8) (rp u) o1 (by rw [List.length_map]; exact room _ _ (by omega) (by omega))
          have o4 := own_keep o2 k2 (own_two o2 o1 (by decide))
          have g2 := k2.old _ _ (o1.not g1) g1
          obtain ⟨w3, s3, o5, k3, x3, a3⟩ := own_app (b := 16) (.agg [.str u.text]) o4 (by rw [List.length_map]; exact room _ _ (by omega) (by omega))
          have o6 := own_keep o3 k3 (own_two o3 o4 (by decide))
          have g3 := k3.old _ _ (o4.not g2) g2
          have c2 : ∀ {β : Type} (st : St) (K : Kv β), callS (orc vE) 23 [.agg [.str t.text], .agg [.int .i64 p.x, .int .i64 p.y], .str p.s] st K = K (.tup [.agg [.str u.text], .int .i64 0]) st q0 := fun st K => callS_bare st K rfl rfl rfl hrr
          have cs := fun {β : Type} (st : St) (K : Kv β) => call_same wu (by omega) rfl st K
          have step : g6_L1 x ([v, w, .bool false, .int .i64 (i : Int)], st) = some (.inl ([v2, w3, .bool false, .int .i64 ((i + 1 : Nat) : Int)], s3)) := by
            simp only [g6_L1, unc_cons, asB_bool, asI_int, un0_nil, hx.len, ifB_decide, if_pos q, hidx, Step.enc, AV.cells, fldA_ip, List.drop_zero, drop2, drop4, drop5, List.drop_succ_cons, loadS_ip, takeO_one, take_sp, bindO_ok, letV_eq, len1, ez, decide_false, Bool.not_false, chk_true, ew, ifB_beq, if_pos k0, i1, i2, unA_agg, asS_str, call_rep eu, unT_tup, nthS_zero, nthS_one, take_tx, c2, letSt_eq, apart_made1, apart_made2, apart_wrote1, Bool.and_self, ev, ifB_bne, if_true]
            simp only [nilS_rp, show (!((false : Bool) == ((0 : Int) != 0))) = false from rfl, bindO_ok, unc_cons, asB_bool, un0_nil, ifB_false, one_rp, fit_rp, sizes_one, chk_true, a2, loadS_mp g2, List.drop_zero, take_tx, unA_agg, asS_str, a3, loadS_mp g3, cs, Bool.not_true, onSum_inl, w1]
          rw [loopO_inl step]
          refine plays_loop hx he hk hp l (i + 1) s3 v2 w3 (ts ++ [u]) hr (by omega) ⟨by rw [List.map_append]; exact o6, by rw [List.map_append]; exact o5, ?_, by simp⟩ (by rw [List.length_append]; simp; omega)
          intro z hz
          rcases List.mem_append.1 hz with hz | hz
          · exact hI.wf z hz
          · simp only [List.mem_cons, List.not_mem_nil, or_false] at hz
            subst hz; exact ⟨wu, su⟩
    by_cases k1 : p.k = 1
    · have h1 := slice_ok wt (by omega) p.x p.y
      have h2 := slice_ref t.text p.x p.y
      rw [tl] at h2
      obtain ⟨r1, r2, hr12⟩ : ∃ r1 r2, (if isS t.size p.x p.y = true then AV.tup [.str ((t.text.take p.y.toNat).drop p.x.toNat), .int .i64 0] else .tup [.str [], .int .i64 1]) = .tup [.str r1, .int .i64 r2] := by
        split
        · exact ⟨_, _, rfl⟩
        · exact ⟨_, _, rfl⟩
      rw [hr12] at h1 h2
      have c2 : ∀ {β : Type} (st : St) (K : Kv β), callS (orc vE) 24 [.agg [.str t.text], .agg [.int .i64 p.x, .int .i64 p.y]] st K = K (.tup [.str r1, .int .i64 r2]) st q0 := fun st K => callS_bare st K rfl rfl rfl h2
      refine go st ?_ rfl
      simp only [g6_L1, unc_cons, asB_bool, asI_int, un0_nil, hx.len, ifB_decide, if_pos q, hidx, Step.enc, AV.cells, fldA_ip, List.drop_zero, drop2, drop4, drop5, List.drop_succ_cons, loadS_ip, takeO_one, take_sp, bindO_ok, letV_eq, len1, ez, decide_false, Bool.not_false, chk_true, ew, ifB_beq, if_neg k0, if_pos k1, i1, i2, unA_agg, asS_str, call_slice h1, unT_tup, nthS_zero, nthS_one, take_tx, c2, beq_self_eq_true, Bool.not_true, ifB_false, bne_self_eq_false, onSum_inl, w1]
    by_cases k2 : p.k = 2
    · have h1 := line_ok wt (by omega) p.n
      have h2 := line_ref (s := t.text) (by omega) hpn
      have c1 : ∀ {β : Type} (st : St) (K : Kv β), callS (orc vE) 16 [rp t, .int .i64 p.n] st K = K (.tup [.int .i64 (lineR t.text p.n).1, .int .i64 (lineR t.text p.n).2]) st q0 := fun st K => callS_bare st K rfl rfl rfl h1
      have c2 : ∀ {β : Type} (st : St) (K : Kv β), callS (orc vE) 25 [.agg [.str t.text], .int .i64 p.n] st K = K (.tup [.int .i64 (lineR t.text p.n).1, .int .i64 (lineR t.text p.n).2]) st q0 := fun st K => callS_bare st K rfl rfl rfl h2
      refine go st ?_ rfl
      simp only [g6_L1, unc_cons, asB_bool, asI_int, un0_nil, hx.len, ifB_decide, if_pos q, hidx, Step.enc, AV.cells, fldA_ip, List.drop_zero, drop2, drop4, drop5, List.drop_succ_cons, loadS_ip, takeO_one, take_sp, bindO_ok, letV_eq, len1, ez, decide_false, Bool.not_false, chk_true, ew, ifB_beq, if_neg k0, if_neg k1, if_pos k2, i1, i2, unA_agg, asS_str, c1, unT_tup, nthS_zero, nthS_one, take_tx, c2, ifB_bne, if_true, bne_self_eq_false, ifB_false, onSum_inl, w1]
    · have h1 := ahead_ok wt (by omega) p.n
      have h2 := ahead_ref (s := t.text) (by omega) p.n
      have c1 : ∀ {β : Type} (st : St) (K : Kv β), callS (orc vE) 17 [rp t, .int .i64 p.n] st K = K (.tup [.int .i64 (aheadR t.text p.n).1, .int .i64 (aheadR t.text p.n).2]) st q0 := fun st K => callS_bare st K rfl rfl rfl h1
      have c2 : ∀ {β : Type} (st : St) (K : Kv β), callS (orc vE) 26 [.agg [.str t.text], .int .i64 p.n] st K = K (.tup [.int .i64 (aheadR t.text p.n).1, .int .i64 (aheadR t.text p.n).2]) st q0 := fun st K => callS_bare st K rfl rfl rfl h2
      refine go st ?_ rfl
      simp only [g6_L1, unc_cons, asB_bool, asI_int, un0_nil, hx.len, ifB_decide, if_pos q, hidx, Step.enc, AV.cells, fldA_ip, List.drop_zero, drop2, drop4, drop5, List.drop_succ_cons, loadS_ip, takeO_one, take_sp, bindO_ok, letV_eq, len1, ez, decide_false, Bool.not_false, chk_true, ew, ifB_beq, if_neg k0, if_neg k1, if_neg k2, i1, i2, unA_agg, asS_str, c1, unT_tup, nthS_zero, nthS_one, take_tx, c2, ifB_bne, if_true, bne_self_eq_false, ifB_false, onSum_inl, w1]
theorem plays_end {st0 : St} {v w : AV} {ts : List T} (hI : PInv st0 v w ts) (hl : ts.length ≤ 61) (st : St) : ∀ (l : List T) (i : Nat), ts.drop i = l → i ≤ ts.length →
    loopO (g6_L2 v w) ([.bool false, .int .i64 (i : Int)], st) = some (0, [.bool false], st)
  | [], i, hd, hi => by
    have := List.drop_eq_nil_iff.1 hd
    have len1 := fun {β : Type} (K : Nat → Option β) => own_len hI.own1 K
    rw [List.length_map] at len1
    have q : ¬ (i : Int) < (ts.length : Int) := by omega
    refine loopO_inr ?_
    simp only [g6_L2, unc_cons, asB_bool, asI_int, un0_nil, len1, ifB_decide, if_neg q]
  | t :: l, i, hd, hi => by
    obtain ⟨hg, hr, hlt⟩ := drop_cons hd
    have len1 := fun {β : Type} (K : Nat → Option β) => own_len hI.own1 K
    rw [List.length_map] at len1
    have q : (i : Int) < (ts.length : Int) := by omega
    have i1 := fun {β : Type} (st' : St) (K : AV → List Nat → Option β) => own_idx hI.own1 (k := i) (v := rp t) (by rw [List.getElem?_map, hg]; rfl) st' K
    have i2 := fun {β : Type} (st' : St) (K : AV → List Nat → Option β) => own_idx hI.own2 (k := i) (v := tx t) (by rw [List.getElem?_map, hg]; rfl) st' K
    simp only [cells_rp] at i1
    simp only [tx, cells_tx] at i2
    obtain ⟨wt, st'⟩ := hI.wf t (List.mem_of_getElem? hg)
    have cs := fun {β : Type} (st : St) (K : Kv β) => call_same wt (by omega) rfl st K
    have w1 : IntKind.wrap .i64 ((i : Int) + 1) = ((i + 1 : Nat) : Int) := by rw [← wrapN (n := i + 1) (by omega)]; rfl
    rw [loopO_inl (s' := ([.bool false, .int .i64 ((i + 1 : Nat) : Int)], st)), plays_end hI hl st l (i + 1) hr (by omega)]
    simp only [g6_L2, unc_cons, asB_bool, asI_int, un0_nil, len1, ifB_decide, if_pos q, i1, loadS_ip, takeO_one, bindO_ok, i2, take_tx, unA_agg, asS_str, cs, Bool.not_true, ifB_false, letV_eq, w1]
theorem law_plays (s : List UInt8) {x : AV} {ps : List Step} (hx : IsSl 6 x (ps.map Step.enc)) (hk : ∀ p ∈ ps, p.ok) : (orc vE).bare 6 [.str s, x] = some (.bool true) := by
  refine bare_of rfl ((g6_eq _ _).trans ?_)
  obtain ⟨b, eb, hb⟩ := large_ok s hx rfl
  have cb : ∀ {β : Type} (st : St) (K : Kv β), callS (orc vE) 21 [.str s, x] st K = K (.bool b) st q0 := fun st K => callS_bare st K rfl (by simp [hx.strip]; rfl) (by simp only [bares_cons, hx.bare]; rfl) eb
  simp only [g6, asS_str, cb, asB_bool]
  cases b with
  | true => rfl
  | false =>
    obtain ⟨h1, h2⟩ := hb rfl
    rw [List.length_map] at h2
    obtain ⟨t, et, wt, tt⟩ := rof_ok (s := s) (by omega)
    have sz : t.size = s.length := by rw [← size_text, tt]
    have et' : ∀ {β : Type} (st : St) (K : Kv β), callS (orc vE) 8 [.str s] st K = K (.tup [rp t, .int .i64 0]) st q0 := fun st K => callS_bare st K rfl rfl rfl et
    have cs := fun {β : Type} (st : St) (K : Kv β) => call_same wt (by omega) tt st K
    have hI : PInv (St.mk 0 0 Tr.leaf) (.sl 1 [rp t] .shut) (.sl 1 [.agg [.str s]] .shut) [t] := by
      refine ⟨Own.shut (Nat.le_refl _) _ (by simp), ?_, ?_, by simp⟩
      · have : [t].map tx = [.agg [.str s]] := by simp [tx, tt]
        rw [this]
        exact Own.shut (Nat.le_refl _) _ (by simp)
      · intro z hz
        simp only [List.mem_cons, List.not_mem_nil, or_false] at hz
        subst hz; exact ⟨wt, by omega⟩
    obtain ⟨st', v', w', ts', e1, hI', hl'⟩ := plays_loop hx rfl hk h2 ps 0 _ _ _ [t] rfl (by omega) hI (by simp)
    have e1 : loopO (g6_L1 x) ([.sl 1 [rp t] .shut, .sl 1 [.agg [.str s]] .shut, .bool false, .int .i64 0], St.mk 0 0 Tr.leaf) = _ := e1
    have e2 : loopO (g6_L2 v' w') ([.bool false, .int .i64 0], st') = _ := plays_end hI' hl' st' ts' 0 rfl (by omega)
    simp only [ifB_false, et', unT_tup, nthS_zero, nthS_one, asI_int, ifB_bne, if_true, cs, asB_bool, Bool.not_true, bindO_ok, unc_cons, un0_nil, one_rp, fit_rp]
    rw [e1]
    simp only [bindO_ok, unc_cons, asB_bool, un0_nil, sel2_zero]
    rw [e2]
    simp only [bindO_ok, unc_cons, asB_bool, un0_nil, sel2_zero]
end Go.Proofs.Ytdfofconhfhgdaa.Vm
